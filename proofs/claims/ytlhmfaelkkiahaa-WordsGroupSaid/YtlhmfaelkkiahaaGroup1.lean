import Derived.Test.YtlhmfaelkkiahaaLaw3
import Derived.Test.YtlhmfaelkkiahaaGroup0
import Derived.Deep.RegionHeld3
import Derived.StillTactics
namespace Go.Proofs.Ytlhmfaelkkiahaa
open Go.RowKit
open Cox (Tl)

theorem strs_three (W : World) (s t u : ByteArray) (b : Nat) (T : TypeId) (h : b = W.heap.size) : Strs (W.alloc (.cells #[.string s, .string t, .string u] T)) b [s, t, u] := by
  subst h
  intro i hi
  have : i = 0 ∨ i = 1 ∨ i = 2 := by simp at hi; omega
  rcases this with rfl | rfl | rfl <;> simp

section
variable {K : Type} [Cox.OR K]

theorem lpow_pw (l : List (Fin 3)) (k : Nat) : lpow l k = Cox.pw l k := by
  induction k with
  | zero => rfl
  | succ k ih => simp only [lpow, Cox.pw, ih]
theorem nf_one (T : Cox.Tri K) (l : List (Fin 3)) : Cox.nf T l = [] ↔ Cox.pi T l = Cox.one := by
  rw [← Cox.nf_nil T, Cox.nf_iff]; rfl
/-- what Order answers -/
theorem ordr_is (T : Cox.Tri K) (l : List (Fin 3)) : (ordr T l = 0 ∧ ∀ j, 1 ≤ j → j ≤ 12 → Cox.pi T (Cox.pw l j) ≠ Cox.one) ∨
    (1 ≤ ordr T l ∧ ordr T l ≤ 12 ∧ Cox.pi T (Cox.pw l (ordr T l)) = Cox.one ∧ ∀ j, 0 < j → j < ordr T l → Cox.pi T (Cox.pw l j) ≠ Cox.one) := by
  by_cases h : ∃ k, 1 ≤ k ∧ k ≤ 12 ∧ Cox.pi T (Cox.pw l k) = Cox.one
  · obtain ⟨k, ⟨h1, h2, h3⟩, h4⟩ := Cox.least_of h
    have h5 : ordr T l = k := ordr_at h1 h2 (by rw [nf_one, lpow_pw]; exact h3) (fun j g1 g2 e => by
      rw [nf_one, lpow_pw] at e
      have := h4 j ⟨g1, by omega, e⟩
      omega)
    right
    rw [h5]
    exact ⟨h1, h2, h3, fun j g1 g2 e => by
      have := h4 j ⟨g1, by omega, e⟩
      omega⟩
  · left
    have h1 : ∀ j, 1 ≤ j → j ≤ 12 → Cox.pi T (Cox.pw l j) ≠ Cox.one := fun j g1 g2 e => h ⟨j, g1, g2, e⟩
    exact ⟨ordr_none fun j g1 g2 e => h1 j g1 g2 (by rw [← nf_one, ← lpow_pw]; exact e), h1⟩
theorem ordr_turned (T : Cox.Tri K) (u w : List (Fin 3)) : ordr T (u ++ w ++ u.reverse) = ordr T w := by
  have hc : ∀ k, Cox.pi T (Cox.pw (u ++ w ++ u.reverse) k) = Cox.one ↔ Cox.pi T (Cox.pw w k) = Cox.one := by
    intro k
    have := Cox.conj_one T u.reverse w k
    rwa [List.reverse_reverse] at this
  unfold ordr
  have : (fun k => (Cox.nf T (lpow (u ++ w ++ u.reverse) k)).isEmpty) = fun k => (Cox.nf T (lpow w k)).isEmpty := by
    funext k
    rw [Bool.eq_iff_iff, List.isEmpty_iff, List.isEmpty_iff, nf_one, nf_one, lpow_pw, lpow_pw]
    exact hc k
  rw [this]
/-- the law on orders -/
theorem ordr_law {T : Cox.Tri K} {a b c : Nat} (hT : T.m = ords a b c) {g : Fin 3 → K} (hg : Cox.Heavy T g) (w : List (Fin 3)) :
    (w.length % 2 = 1 → ordr T w = 0 ∨ ordr T w = 2) ∧ (ordr T w = 0 ∨ ordr T w = 1 ∨ ordr T w = 2 ∨ (0 < ordr T w ∧ ((0 < a ∧ a % ordr T w = 0) ∨ (0 < b ∧ b % ordr T w = 0) ∨ (0 < c ∧ c % ordr T w = 0)))) := by
  rcases ordr_is T w with ⟨h, _⟩ | ⟨h1, h2, h3, h4⟩
  · exact ⟨fun _ => .inl h, .inl h⟩
  · obtain ⟨g1, g2⟩ := Cox.order_of T hg h1 h3 h4
    refine ⟨fun h => .inr (g1 h), ?_⟩
    rcases g2 with g2 | g2 | ⟨i, j, hij, hm, hd⟩
    · exact .inr (.inl g2)
    · exact .inr (.inr (.inl g2))
    · refine .inr (.inr (.inr ⟨h1, ?_⟩))
      rw [hT] at hm hd
      unfold ords at hm hd
      rw [if_neg hij] at hm hd
      have hd' := Nat.mod_eq_zero_of_dvd hd
      split at hm
      · rename_i h5
        rw [if_pos h5] at hd'
        exact .inl ⟨by omega, hd'⟩
      · rename_i h5
        rw [if_neg h5] at hd'
        split at hm
        · rename_i h6
          rw [if_pos h6] at hd'
          exact .inr (.inl ⟨by omega, hd'⟩)
        · rename_i h6
          rw [if_neg h6] at hd'
          exact .inr (.inr ⟨by omega, hd'⟩)

set_option maxRecDepth 100000 in
set_option maxHeartbeats 4000000 in
theorem group_yes (T : Cox.Tri K) (a b c : Nat) (hT : T.m = ords a b c) (hc0 : chk a b c = 0) (ka : a ≤ 12) (kb : b ≤ 12) (kc : c ≤ 12) {g : Fin 3 → K} (hg : Cox.Heavy T g) (u v x : List (Fin 3)) (hu : u.length ≤ 20) (hv : v.length ≤ 20) (hx : x.length ≤ 20) (w : World) :
    Calls Try.prog 6 #[oval a b c, .string (wb u), .string (wb v), .string (wb x)] w fun e w' => e = .returned (.bool true) ∧ Below w.heap.size w w' := by
  have h2 : ∀ y, y ∈ [u, v, x] → y.length ≤ 60 := fun y hy => by
    simp only [List.mem_cons, List.not_mem_nil, or_false] at hy
    rcases hy with rfl | rfl | rfl <;> omega
  have he' : errs a b c [wb u, wb v, wb x] = 0 := errs_zero (ws := [u, v, x]) hc0 h2
  have HE0 := (fun (bl C : Nat) (w : World) (hbl : bl < w.heap.size) (hl : Strs w bl [wb u, wb v, wb x]) => errors_any a b c [wb u, wb v, wb x] bl C (by show 3 < 100; omega) (short_wb (ws := [u, v, x]) h2) w hbl hl)
  simp only [he'] at HE0
  have e1 : ∀ x : List (Fin 3), x.length ≤ 60 → errs a b c [wb x] = 0 := fun x hx => errs_zero (ws := [x]) hc0 (fun y hy => by
    have : y = x := by simpa using hy
    subst this; exact hx)
  have e2 : ∀ x y : List (Fin 3), x.length ≤ 60 → y.length ≤ 60 → errs a b c [wb x, wb y] = 0 := fun x y hx hy => errs_zero (ws := [x, y]) hc0 (fun z hz => by
    simp only [List.mem_cons, List.not_mem_nil, or_false] at hz
    rcases hz with rfl | rfl <;> assumption)
  have l1 := Cox.nf_le T (u ++ v)
  have l2 := Cox.nf_le T (v ++ x)
  have l3 := Cox.nf_le T u.reverse
  simp only [List.length_append, List.length_reverse] at l1 l2 l3
  have HS := Lib.hid (fun w => overO sane_any a b c w)
  have C1 := overO (fun w => times_yes T a b c hT u v (e2 u v (by omega) (by omega)) w) a b c
  have C2 := overO (fun w => times_yes T a b c hT v x (e2 v x (by omega) (by omega)) w) a b c
  have C3 := overO (fun w => times_yes T a b c hT (Cox.nf T (u ++ v)) x (e2 _ x (by omega) (by omega)) w) a b c
  have C4 := overO (fun w => times_yes T a b c hT u (Cox.nf T (v ++ x)) (e2 u _ (by omega) (by omega)) w) a b c
  have C5 := overO (fun w => inverse_yes T a b c hT u (e1 u (by omega)) w) a b c
  have C6 := overO (fun w => times_yes T a b c hT u (Cox.nf T u.reverse) (e2 u _ (by omega) (by omega)) w) a b c
  have C7 := overO (fun w => times_yes T a b c hT (Cox.nf T u.reverse) u (e2 _ u (by omega) (by omega)) w) a b c
  have C8 := overO (fun w => order_yes T a b c hT x (e1 x (by omega)) w) a b c
  have C9 := overO (fun w => order_yes T a b c hT (u ++ x ++ u.reverse) (e1 _ (by simp; omega)) w) a b c
  have q3 : Cox.nf T (Cox.nf T (u ++ v) ++ x) = Cox.nf T (u ++ v ++ x) := Cox.nf_congr T (Cox.pi_right T (Cox.nf_pi T _) x)
  have q4 : Cox.nf T (u ++ Cox.nf T (v ++ x)) = Cox.nf T (u ++ v ++ x) := by
    rw [List.append_assoc]
    exact Cox.nf_congr T (Cox.pi_left T (Cox.nf_pi T _) u)
  have q6 : Cox.nf T (u ++ Cox.nf T u.reverse) = [] := by
    rw [nf_one, ← Cox.pi_turn T u]
    exact Cox.pi_left T (Cox.nf_pi T _) u
  have q7 : Cox.nf T (Cox.nf T u.reverse ++ u) = [] := by
    rw [nf_one, ← Cox.pi_turn' T u]
    exact Cox.pi_right T (Cox.nf_pi T _) u
  rw [q3] at C3
  rw [q4] at C4
  rw [q6] at C6
  rw [q7] at C7
  rw [ordr_turned] at C9
  have hw0 : wb [] = ⟨#[]⟩ := rfl
  rw [hw0] at C6 C7
  obtain ⟨o1, o2⟩ := ordr_law hT hg x
  have hn12 : ordr T x ≤ 12 := by
    rcases ordr_is T x with ⟨h, _⟩ | ⟨_, h, _⟩ <;> omega
  generalize ordr T x = n at *
  generalize Cox.nf T (u ++ v) = p1 at *
  generalize Cox.nf T (v ++ x) = p2 at *
  generalize Cox.nf T (u ++ v ++ x) = p3 at *
  generalize Cox.nf T u.reverse = p4 at *
  have CT0 := fun w => turned_any u (by omega) w
  have zu := wb_size u
  have zv := wb_size v
  have zx := wb_size x
  have k1 : ¬ 20 < u.length := by omega
  have k2 : ¬ 20 < v.length := by omega
  have k3 : ¬ 20 < x.length := by omega
  have b1 := wb_append u x
  have b2 := wb_append (u ++ x) u.reverse
  have s1 : ¬ 9223372036854775807 < u.length + x.length := by omega
  have s2 : ¬ 9223372036854775807 < (wb (u ++ x)).size + (wb u.reverse).size := by rw [wb_size, wb_size]; simp; omega
  generalize wb (u ++ x ++ u.reverse) = S1 at *
  generalize wb (u ++ x) = S2 at *
  generalize wb u.reverse = S3 at *
  generalize wb u = S4 at *
  generalize wb v = S5 at *
  generalize wb x = S6 at *
  generalize wb p1 = S7 at *
  generalize wb p2 = S8 at *
  generalize wb p3 = S9 at *
  generalize wb p4 = S0 at *
  have D1 := Lib.hid C1
  have D2 := Lib.hid C2
  have D3 := Lib.hid C3
  have D4 := Lib.hid C4
  have D5 := Lib.hid C5
  have D6 := Lib.hid C6
  have D7 := Lib.hid C7
  have D8 := Lib.hid C8
  have D9 := Lib.hid C9
  have O1 := Lib.hid o1
  have CT := Lib.hid CT0
  have O2 := Lib.hid o2
  have HE := Lib.hid HE0
  clear CT0 C1 C2 C3 C4 C5 C6 C7 C8 C9 o1 o2 q3 q4 q6 q7 l1 l2 l3 e1 e2 he' HE0 h2 hT hc0 hg hw0
  unfold oval at *
  have ha := AtO.new a b c w
  have hb := (Below.refl w.heap.size w).alloc (Nat.le_refl _) (.cells #[.int .i64 a, .int .i64 b, .int .i64 c] 23)
  have HA := Lib.hid ha
  have HB := Lib.hid hb
  obtain ⟨a0, a1, a2, -⟩ := ha
  clear hb
  go_enter Try.func6, Try.ntmps6
  go_wp2_with fail
  go_at_call 7
  refine (HS.out _ _ _ HA.out HB.out).mono ?_
  clear HA HB a0 a1 a2
  rintro e w2 ⟨rfl, ha, hb⟩
  have HA := Lib.hid ha
  have HB := Lib.hid hb
  obtain ⟨a0, a1, a2, -⟩ := ha
  clear hb
  go_wp2_with fail
  go_at_call 8
  refine (HE.out _ _ _ (by simp) (strs_three _ _ _ _ _ _ rfl)).mono ?_
  rintro e w3 ⟨rfl, hb3⟩
  have hb0 := (Below.refl w2.heap.size w2).alloc (Nat.le_refl _) (.cells #[.string S4, .string S5, .string S6] 9)
  have ha := HA.out.below (hb0.trans (hb3.mono (by simp)))
  have hb := HB.out.trans ((((Below.refl _ _).alloc HB.out.size _)).trans (hb3.mono (by have := HB.out.size; simp; omega)))
  clear hb3 hb0 HA HB a0 a1 a2 k1 k2 k3
  have HA := Lib.hid ha
  have HB := Lib.hid hb
  obtain ⟨a0, a1, a2, -⟩ := ha
  clear hb
  go_wp2_with fail
  go_at_call 15
  refine (D1.out _ _ _ HA.out HB.out).mono ?_
  clear HA HB a0 a1 a2
  rintro e w2 ⟨rfl, ha, hb⟩
  have HA := Lib.hid ha
  have HB := Lib.hid hb
  obtain ⟨a0, a1, a2, -⟩ := ha
  clear hb
  go_wp2_with fail
  go_at_call 15
  refine (D2.out _ _ _ HA.out HB.out).mono ?_
  clear HA HB a0 a1 a2
  rintro e w2 ⟨rfl, ha, hb⟩
  have HA := Lib.hid ha
  have HB := Lib.hid hb
  obtain ⟨a0, a1, a2, -⟩ := ha
  clear hb
  go_wp2_with fail
  go_at_call 15
  refine (D3.out _ _ _ HA.out HB.out).mono ?_
  clear HA HB a0 a1 a2
  rintro e w2 ⟨rfl, ha, hb⟩
  have HA := Lib.hid ha
  have HB := Lib.hid hb
  obtain ⟨a0, a1, a2, -⟩ := ha
  clear hb
  go_wp2_with fail
  go_at_call 15
  refine (D4.out _ _ _ HA.out HB.out).mono ?_
  clear HA HB a0 a1 a2
  rintro e w2 ⟨rfl, ha, hb⟩
  have HA := Lib.hid ha
  have HB := Lib.hid hb
  obtain ⟨a0, a1, a2, -⟩ := ha
  clear hb
  go_wp2_with fail
  go_at_call 17
  refine (D5.out _ _ _ HA.out HB.out).mono ?_
  clear HA HB a0 a1 a2
  rintro e w2 ⟨rfl, ha, hb⟩
  have HA := Lib.hid ha
  have HB := Lib.hid hb
  obtain ⟨a0, a1, a2, -⟩ := ha
  clear hb
  go_wp2_with fail
  go_at_call 15
  refine (D6.out _ _ _ HA.out HB.out).mono ?_
  clear HA HB a0 a1 a2
  rintro e w2 ⟨rfl, ha, hb⟩
  have HA := Lib.hid ha
  have HB := Lib.hid hb
  obtain ⟨a0, a1, a2, -⟩ := ha
  clear hb
  go_wp2_with fail
  go_at_call 15
  refine (D7.out _ _ _ HA.out HB.out).mono ?_
  clear HA HB a0 a1 a2
  rintro e w2 ⟨rfl, ha, hb⟩
  have HA := Lib.hid ha
  have HB := Lib.hid hb
  obtain ⟨a0, a1, a2, -⟩ := ha
  clear hb
  go_wp2_with fail
  go_at_call 19
  refine (D8.out _ _ _ HA.out HB.out).mono ?_
  clear HA HB a0 a1 a2
  rintro e w2 ⟨rfl, ha, hb⟩
  have HA := Lib.hid ha
  have HB := Lib.hid hb
  obtain ⟨a0, a1, a2, -⟩ := ha
  clear hb
  go_wp2_with fail
  go_region_held3 (fun w' => w'.cell? ⟨w.heap.size, 0, none⟩ = some (.int .i64 a) ∧ w'.cell? ⟨w.heap.size, 1, none⟩ = some (.int .i64 b) ∧ w'.cell? ⟨w.heap.size, 2, none⟩ = some (.int .i64 c))
    ((first | exact ⟨a0, a1, a2⟩ | (obtain ⟨g0, g1, g2, -⟩ := ‹AtO _ _ _ _ _›; exact ⟨g0, g1, g2⟩)))
    (first | (go_at_call 20; refine (CT.out _).mono ?_; rintro e w2 ⟨rfl, rfl⟩) | (go_at_call 19; refine (D9.out _ _ _ (HA.out.below (Below.refl _ _).drew) HB.out.drew).mono ?_; rintro e w2 ⟨rfl, ha, hb⟩))
  clear HA HB a0 a1 a2
  have HA := Lib.hid ha
  have HB := Lib.hid hb
  obtain ⟨a0, a1, a2, -⟩ := ha
  clear hb
  clear b1 b2 s1 s2
  by_cases hodd : x.length % 2 = 1
  · have ho : (((x.length : Int)) % 2 == 1) = true := by
      have : ((x.length : Int)) % 2 = 1 := by omega
      rw [this]; rfl
    rcases O1.out hodd with h | h
    · subst h
      clear hodd
      go_wp2
      go_ret
      exact ⟨rfl, HB.out⟩
    · subst h
      clear hodd
      go_wp2
      go_ret
      exact ⟨rfl, HB.out⟩
  · have ho : (((x.length : Int)) % 2 == 1) = false := by
      have : ((x.length : Int)) % 2 = 0 := by omega
      rw [this]; rfl
    clear hodd
    have hcase : n = 0 ∨ n = 1 ∨ n = 2 ∨ (2 < n ∧ ((0 < a ∧ a % n = 0) ∨ (0 < b ∧ b % n = 0) ∨ (0 < c ∧ c % n = 0))) := by
      rcases O2.out with h | h | h | ⟨h, hd⟩
      · exact .inl h
      · exact .inr (.inl h)
      · exact .inr (.inr (.inl h))
      · by_cases h2 : 2 < n
        · exact .inr (.inr (.inr ⟨h2, hd⟩))
        · omega
    rcases hcase with h | h | h | ⟨h, hd⟩
    · subst h
      go_wp2
      go_ret
      exact ⟨rfl, HB.out⟩
    · subst h
      go_wp2
      go_ret
      exact ⟨rfl, HB.out⟩
    · subst h
      go_wp2
      go_ret
      exact ⟨rfl, HB.out⟩
    · have V : ∀ m : Nat, m ≤ 12 → ∃ d : Bool, (d = true ↔ 0 < m ∧ m % n = 0) ∧ ∀ w, Calls Try.prog 21 #[.int .i64 (n : Int), .int .i64 (m : Int)] w fun e w' => e = .returned (.bool d) ∧ w' = w := by
        intro m hm
        refine ⟨decide (0 < (n : Int) ∧ 0 < (m : Int) ∧ (m : Int) % (n : Int) = 0), ?_, fun w => divides_any n m (by omega) (by omega) w⟩
        rw [decide_eq_true_eq]
        constructor
        · rintro ⟨_, h1, h2⟩
          exact ⟨by omega, by exact_mod_cast h2⟩
        · rintro ⟨h1, h2⟩
          exact ⟨by omega, by omega, by exact_mod_cast h2⟩
      obtain ⟨da, ia, VA⟩ := V a ka
      obtain ⟨db, ib, VB⟩ := V b kb
      obtain ⟨dc, ic, VC⟩ := V c kc
      rw [← ia, ← ib, ← ic] at hd
      have n0 : ((n : Int) == 0) = false := by
        rw [beq_eq_false_iff_ne]; omega
      have n1 : ((n : Int) == 1) = false := by
        rw [beq_eq_false_iff_ne]; omega
      have n2 : ((n : Int) == 2) = false := by
        rw [beq_eq_false_iff_ne]; omega
      have WA := Lib.hid VA
      have WB := Lib.hid VB
      have WC := Lib.hid VC
      clear V VA VB VC ia ib ic
      cases da
      · cases db
        · cases dc
          · rcases hd with h | h | h <;> cases h
          · clear hd
            go_wp2_with (first | (go_at_call 21; with_reducible refine (WA.out _).mono ?_; rintro e w3 ⟨rfl, rfl⟩) | (go_at_call 21; with_reducible refine (WB.out _).mono ?_; rintro e w3 ⟨rfl, rfl⟩) | (go_at_call 21; with_reducible refine (WC.out _).mono ?_; rintro e w3 ⟨rfl, rfl⟩))
            go_ret
            exact ⟨rfl, HB.out⟩
        · clear hd
          go_wp2_with (first | (go_at_call 21; with_reducible refine (WA.out _).mono ?_; rintro e w3 ⟨rfl, rfl⟩) | (go_at_call 21; with_reducible refine (WB.out _).mono ?_; rintro e w3 ⟨rfl, rfl⟩))
          go_ret
          exact ⟨rfl, HB.out⟩
      · clear hd
        go_wp2_with (first | (go_at_call 21; with_reducible refine (WA.out _).mono ?_; rintro e w3 ⟨rfl, rfl⟩))
        go_ret
        exact ⟨rfl, HB.out⟩
end
end Go.Proofs.Ytlhmfaelkkiahaa
