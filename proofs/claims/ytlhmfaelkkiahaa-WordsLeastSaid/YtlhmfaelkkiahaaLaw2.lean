import Derived.Test.YtlhmfaelkkiahaaLaw1
import Derived.Deep.RegionHeld3
import Derived.StillTactics
namespace Go.Proofs.Ytlhmfaelkkiahaa
open Go.RowKit
open Cox (Tl)

section
variable {K : Type} [Cox.OR K]
set_option maxRecDepth 100000 in
set_option maxHeartbeats 2000000 in
theorem least_yes (T : Cox.Tri K) (a b c : Nat) (hT : T.m = ords a b c) (hc0 : chk a b c = 0) (l v : List (Fin 3)) (hl : l.length ≤ 60) (hv : v.length ≤ 60) (k : Int) (w : World) :
    Calls Try.prog 4 #[oval a b c, .string (wb l), .string (wb v), .int .i64 k] w fun e w' => e = .returned (.bool true) ∧ Below w.heap.size w w' := by
  have he : errs a b c ([l, v].map wb) = 0 := errs_zero hc0 (by intro x hx; simp at hx; rcases hx with rfl | rfl <;> assumption)
  have hn60 : (Cox.nf T l).length ≤ 60 := by have := Cox.nf_le T l; omega
  have h2 : ∀ x, x ∈ [l, v] → x.length ≤ 60 := fun x hx => by
    rcases List.mem_cons.1 hx with rfl | hx
    · exact hl
    · have : x = v := by simpa using hx
      subst this; exact hv
  have he' : errs a b c [wb l, wb v] = 0 := he
  have HE0 := (fun (bl C : Nat) (w : World) (hbl : bl < w.heap.size) (hl : Strs w bl [wb l, wb v]) => errors_any a b c [wb l, wb v] bl C (by show 2 < 100; omega) (short_wb (ws := [l, v]) h2) w hbl hl)
  simp only [he'] at HE0
  have HE := Lib.hid HE0
  have e1 : ∀ x : List (Fin 3), x.length ≤ 60 → errs a b c [wb x] = 0 := fun x hx => errs_zero (ws := [x]) hc0 (by intro y hy; have : y = x := by simpa using hy
                                                                                                                   subst this; exact hx)
  have e2 : ∀ x y : List (Fin 3), x.length ≤ 60 → y.length ≤ 60 → errs a b c [wb x, wb y] = 0 := fun x y hx hy => errs_zero (ws := [x, y]) hc0 (by intro z hz; simp at hz; rcases hz with rfl | rfl <;> assumption)
  have HS := Lib.hid (fun w => overO sane_any a b c w)
  have N1 := overO (fun w => normal_yes T a b c hT l (e1 l hl) w) a b c
  generalize hn : Cox.nf T l = n at *
  have S1 := overO (fun w => same_yes T a b c hT l n (e2 l n hl hn60) w) a b c
  have N2 := overO (fun w => normal_yes T a b c hT n (e1 n hn60) w) a b c
  have hnn : Cox.nf T n = n := by rw [← hn, Cox.nf_nf]
  have N3 := overO (fun w => normal_yes T a b c hT v (e1 v hv) w) a b c
  have S2 := overO (fun w => same_yes T a b c hT l v (e2 l v hl hv) w) a b c
  have NT := fun c' => overO (fun w => normal_yes T a b c hT (n.take c') (e1 (n.take c') (by simp; omega)) w) a b c
  have ND := fun c' => overO (fun w => normal_yes T a b c hT (n.drop c') (e1 (n.drop c') (by simp; omega)) w) a b c
  have N4 := overO (fun w => normal_yes T a b c hT [] (e1 [] (by simp)) w) a b c
  rw [Cox.nf_nil] at N4
  have hsame : Cox.nf T l = Cox.nf T n := by rw [hnn, hn]
  rw [hn, hnn, beq_self_eq_true] at S1
  rw [hnn] at N2
  rw [hn] at S2
  obtain ⟨z, hz⟩ : ∃ z, ((wb n).toList == (wb (Cox.nf T v)).toList) = z := ⟨_, rfl⟩
  simp only [hz] at S2
  rw [wb_beq] at hz
  have HZ := Lib.hid hz
  have t1 : ∀ c', Cox.nf T (n.take c') = n.take c' := fun c' => Cox.nf_begin T (b := n.drop c') (by rw [List.take_append_drop]; exact hnn)
  have t2 : ∀ c', Cox.nf T (n.drop c') = n.drop c' := fun c' => Cox.nf_end T (a := n.take c') (by rw [List.take_append_drop]; exact hnn)
  simp only [t1] at NT
  simp only [t2] at ND
  have hle : n.length ≤ l.length := by rw [← hn]; exact Cox.nf_le T l
  have hpar : n.length % 2 = l.length % 2 := by rw [← hn]; exact Cox.nf_parity T l
  have hmin : Cox.nf T v = n → n.length ≤ v.length ∧ (n.length = v.length → Cox.lex v n = false) := by
    intro h
    rw [← h]
    refine ⟨Cox.nf_le T v, fun h2 => Cox.nf_min T (by rw [← Cox.nf_len]; exact h2.symm) rfl⟩
  have hq1 : ¬ l.length < n.length := by omega
  have hq2 : ((((l.length : Int) - (n.length : Int)) % 2) != 0) = false := by
    have : ((l.length : Int) - (n.length : Int)) % 2 = 0 := by omega
    rw [this]; rfl
  have zn := wb_size n
  have zl := wb_size l
  have zv := wb_size v
  have D1 := Lib.hid N1
  have D2 := Lib.hid S1
  have D3 := Lib.hid NT
  have D4 := Lib.hid ND
  have D5 := Lib.hid N2
  have D8 := Lib.hid N4
  have D6 := Lib.hid S2
  have D7 := Lib.hid N3
  have HM := Lib.hid hmin
  have HN := Lib.hid hnn
  clear hz N4 he' HE0 N1 S1 NT ND N2 S2 N3 hmin hnn he e1 e2 hc0 hT hn t1 t2 hsame hn60
  unfold oval at *
  have ha := AtO.new a b c w
  have hb := (Below.refl w.heap.size w).alloc (Nat.le_refl _) (.cells #[.int .i64 a, .int .i64 b, .int .i64 c] 23)
  have HA := Lib.hid ha
  have HB := Lib.hid hb
  clear ha hb
  go_enter Try.func4, Try.ntmps4
  go_wp2_with fail
  go_at_call 7
  refine (HS.out _ _ _ HA.out HB.out).mono ?_
  clear HA HB
  rintro e w2 ⟨rfl, ha, hb⟩
  have HA := Lib.hid ha
  have HB := Lib.hid hb
  obtain ⟨a0, a1, a2, -⟩ := ha
  clear hb
  go_wp2_with fail
  go_at_call 8
  refine (HE.out _ _ _ (by simp) (strs_two _ _ _ _ _ rfl)).mono ?_
  rintro e w3 ⟨rfl, hb3⟩
  have hb0 := (Below.refl w2.heap.size w2).alloc (Nat.le_refl _) (.cells #[.string (wb l), .string (wb v)] 9)
  have ha := HA.out.below (hb0.trans (hb3.mono (by simp)))
  have hb := HB.out.trans ((((Below.refl _ _).alloc HB.out.size _)).trans (hb3.mono (by have := HB.out.size; simp; omega)))
  clear hb3 hb0 HA HB a0 a1 a2
  have HA := Lib.hid ha
  have HB := Lib.hid hb
  obtain ⟨a0, a1, a2, -⟩ := ha
  clear hb
  go_wp2_with fail
  go_at_call 9
  refine (D1.out _ _ _ HA.out HB.out).mono ?_
  clear HA HB
  rintro e w2 ⟨rfl, ha, hb⟩
  have HA := Lib.hid ha
  have HB := Lib.hid hb
  obtain ⟨a0, a1, a2, -⟩ := ha
  clear hb
  go_wp2_with fail
  go_at_call 11
  refine (D2.out _ _ _ HA.out HB.out).mono ?_
  clear HA HB
  rintro e w2 ⟨rfl, ha, hb⟩
  have HA := Lib.hid ha
  have HB := Lib.hid hb
  obtain ⟨a0, a1, a2, -⟩ := ha
  clear hb
  clear hq1 hq2
  rcases Int.lt_or_le k 0 with hk0 | hk0
  · have hk1 : ¬ (0 : Int) ≤ k := by omega
    have hemp : (wb []).toList = [] := by rw [ByteArray.toList_eq]; rfl
    have hc4 : (wb n).extract 0 n.length = wb n := by rw [wb_take, List.take_length]
    have hc5 : (wb n).extract n.length n.length = wb [] := by
      have := wb_drop n n.length
      rwa [zn, List.drop_length] at this
    go_wp2_with fail
    go_region_held3 (fun w' => w'.cell? ⟨w.heap.size, 0, none⟩ = some (.int .i64 a) ∧ w'.cell? ⟨w.heap.size, 1, none⟩ = some (.int .i64 b) ∧ w'.cell? ⟨w.heap.size, 2, none⟩ = some (.int .i64 c))
      ((first | exact ⟨a0, a1, a2⟩ | (obtain ⟨g0, g1, g2, -⟩ := ‹AtO _ _ _ _ _›; exact ⟨g0, g1, g2⟩)))
      (first | (go_at_call 9; refine (D5.out _ _ _ (HA.out.below (Below.refl _ _).drew) HB.out.drew).mono ?_; rintro e w2 ⟨rfl, ha, hb⟩))
    clear HA HB a0 a1 a2
    have HA := Lib.hid ha
    have HB := Lib.hid hb
    obtain ⟨a0, a1, a2, -⟩ := ha
    clear hb
    go_wp2_with fail
    go_region_held3 (fun w' => w'.cell? ⟨w.heap.size, 0, none⟩ = some (.int .i64 a) ∧ w'.cell? ⟨w.heap.size, 1, none⟩ = some (.int .i64 b) ∧ w'.cell? ⟨w.heap.size, 2, none⟩ = some (.int .i64 c))
      ((first | exact ⟨a0, a1, a2⟩ | (obtain ⟨g0, g1, g2, -⟩ := ‹AtO _ _ _ _ _›; exact ⟨g0, g1, g2⟩)))
      (first | (go_at_call 9; refine (D8.out _ _ _ (HA.out.below (Below.refl _ _).drew) HB.out.drew).mono ?_; rintro e w2 ⟨rfl, ha, hb⟩))
    clear HA HB a0 a1 a2
    have HA := Lib.hid ha
    have HB := Lib.hid hb
    obtain ⟨a0, a1, a2, -⟩ := ha
    clear hb
    go_wp2_with fail
    go_at_call 9
    refine (D5.out _ _ _ HA.out HB.out).mono ?_
    clear HA HB a0 a1 a2
    rintro e w2 ⟨rfl, ha, hb⟩
    have HA := Lib.hid ha
    have HB := Lib.hid hb
    obtain ⟨a0, a1, a2, -⟩ := ha
    clear hb
    go_wp2_with fail
    go_at_call 11
    refine (D6.out _ _ _ HA.out HB.out).mono ?_
    clear HA HB a0 a1 a2
    rintro e w2 ⟨rfl, ha, hb⟩
    have HA := Lib.hid ha
    have HB := Lib.hid hb
    obtain ⟨a0, a1, a2, -⟩ := ha
    clear hb
    cases z
    · have hne : ((wb (Cox.nf T v)).toList == (wb n).toList) = false := by
        rw [wb_beq]
        have := HZ.out
        simp only [decide_eq_false_iff_not] at this ⊢
        exact fun e => this e.symm
      go_wp2_with fail
      go_at_call 9
      refine (D7.out _ _ _ HA.out HB.out).mono ?_
      clear HA HB a0 a1 a2
      rintro e w2 ⟨rfl, ha, hb⟩
      have HA := Lib.hid ha
      have HB := Lib.hid hb
      obtain ⟨a0, a1, a2, -⟩ := ha
      clear hb
      go_wp2
      go_ret
      exact ⟨rfl, HB.out⟩
    · have hnv : Cox.nf T v = n := by
        have := HZ.out
        simp only [decide_eq_true_eq] at this
        exact this.symm
      obtain ⟨m1, m2⟩ := HM.out hnv
      rcases Nat.lt_or_eq_of_le m1 with m3 | m3
      · clear m1 m2 hnv
        go_wp2
        go_ret
        exact ⟨rfl, HB.out⟩
      · have hx := m2 m3
        rw [← less_wb] at hx
        have m4 : v.length ≤ n.length := by omega
        have m5 : (v.length : Int) = (n.length : Int) := by omega
        have m6 : ¬ n.length < v.length := by omega
        clear m1 m2 m3 hnv
        go_wp2
        go_ret
        exact ⟨rfl, HB.out⟩
  · rcases Int.lt_or_le k n.length with hkn | hkn
    · obtain ⟨c', hk⟩ : ∃ c' : Nat, k = c' := ⟨k.toNat, by omega⟩
      subst hk
      have hk3 : (c' : Int) ≤ (n.length : Int) := by omega
      have hk4 : (c' : Int) ≤ ((wb n).size : Int) := by omega
      have hc2 := wb_take n c'
      have hc3 := wb_drop n c'
      rw [zn] at hc3
      go_wp2_with fail
      go_region_held3 (fun w' => w'.cell? ⟨w.heap.size, 0, none⟩ = some (.int .i64 a) ∧ w'.cell? ⟨w.heap.size, 1, none⟩ = some (.int .i64 b) ∧ w'.cell? ⟨w.heap.size, 2, none⟩ = some (.int .i64 c))
        ((first | exact ⟨a0, a1, a2⟩ | (obtain ⟨g0, g1, g2, -⟩ := ‹AtO _ _ _ _ _›; exact ⟨g0, g1, g2⟩)))
        (first | (go_at_call 9; refine ((D3.out c') _ _ _ (HA.out.below (Below.refl _ _).drew) HB.out.drew).mono ?_; rintro e w2 ⟨rfl, ha, hb⟩))
      clear HA HB a0 a1 a2
      have HA := Lib.hid ha
      have HB := Lib.hid hb
      obtain ⟨a0, a1, a2, -⟩ := ha
      clear hb
      go_wp2_with fail
      go_region_held3 (fun w' => w'.cell? ⟨w.heap.size, 0, none⟩ = some (.int .i64 a) ∧ w'.cell? ⟨w.heap.size, 1, none⟩ = some (.int .i64 b) ∧ w'.cell? ⟨w.heap.size, 2, none⟩ = some (.int .i64 c))
        ((first | exact ⟨a0, a1, a2⟩ | (obtain ⟨g0, g1, g2, -⟩ := ‹AtO _ _ _ _ _›; exact ⟨g0, g1, g2⟩)))
        (first | (go_at_call 9; refine ((D4.out c') _ _ _ (HA.out.below (Below.refl _ _).drew) HB.out.drew).mono ?_; rintro e w2 ⟨rfl, ha, hb⟩))
      clear HA HB a0 a1 a2
      have HA := Lib.hid ha
      have HB := Lib.hid hb
      obtain ⟨a0, a1, a2, -⟩ := ha
      clear hb
      go_wp2_with fail
      go_at_call 9
      refine (D5.out _ _ _ HA.out HB.out).mono ?_
      clear HA HB a0 a1 a2
      rintro e w2 ⟨rfl, ha, hb⟩
      have HA := Lib.hid ha
      have HB := Lib.hid hb
      obtain ⟨a0, a1, a2, -⟩ := ha
      clear hb
      go_wp2_with fail
      go_at_call 11
      refine (D6.out _ _ _ HA.out HB.out).mono ?_
      clear HA HB a0 a1 a2
      rintro e w2 ⟨rfl, ha, hb⟩
      have HA := Lib.hid ha
      have HB := Lib.hid hb
      obtain ⟨a0, a1, a2, -⟩ := ha
      clear hb
      cases z
      · have hne : ((wb (Cox.nf T v)).toList == (wb n).toList) = false := by
          rw [wb_beq]
          have := HZ.out
          simp only [decide_eq_false_iff_not] at this ⊢
          exact fun e => this e.symm
        go_wp2_with fail
        go_at_call 9
        refine (D7.out _ _ _ HA.out HB.out).mono ?_
        clear HA HB a0 a1 a2
        rintro e w2 ⟨rfl, ha, hb⟩
        have HA := Lib.hid ha
        have HB := Lib.hid hb
        obtain ⟨a0, a1, a2, -⟩ := ha
        clear hb
        go_wp2
        go_ret
        exact ⟨rfl, HB.out⟩
      · have hnv : Cox.nf T v = n := by
          have := HZ.out
          simp only [decide_eq_true_eq] at this
          exact this.symm
        obtain ⟨m1, m2⟩ := HM.out hnv
        rcases Nat.lt_or_eq_of_le m1 with m3 | m3
        · clear m1 m2 hnv
          go_wp2
          go_ret
          exact ⟨rfl, HB.out⟩
        · have hx := m2 m3
          rw [← less_wb] at hx
          have m4 : v.length ≤ n.length := by omega
          have m5 : (v.length : Int) = (n.length : Int) := by omega
          have m6 : ¬ n.length < v.length := by omega
          clear m1 m2 m3 hnv
          go_wp2
          go_ret
          exact ⟨rfl, HB.out⟩
    · have hk1 : ¬ k < (n.length : Int) := by omega
      have hemp : (wb []).toList = [] := by rw [ByteArray.toList_eq]; rfl
      have hc4 : (wb n).extract 0 n.length = wb n := by rw [wb_take, List.take_length]
      have hc5 : (wb n).extract n.length n.length = wb [] := by
        have := wb_drop n n.length
        rwa [zn, List.drop_length] at this
      go_wp2_with fail
      go_region_held3 (fun w' => w'.cell? ⟨w.heap.size, 0, none⟩ = some (.int .i64 a) ∧ w'.cell? ⟨w.heap.size, 1, none⟩ = some (.int .i64 b) ∧ w'.cell? ⟨w.heap.size, 2, none⟩ = some (.int .i64 c))
        ((first | exact ⟨a0, a1, a2⟩ | (obtain ⟨g0, g1, g2, -⟩ := ‹AtO _ _ _ _ _›; exact ⟨g0, g1, g2⟩)))
        (first | (go_at_call 9; refine (D5.out _ _ _ (HA.out.below (Below.refl _ _).drew) HB.out.drew).mono ?_; rintro e w2 ⟨rfl, ha, hb⟩))
      clear HA HB a0 a1 a2
      have HA := Lib.hid ha
      have HB := Lib.hid hb
      obtain ⟨a0, a1, a2, -⟩ := ha
      clear hb
      go_wp2_with fail
      go_region_held3 (fun w' => w'.cell? ⟨w.heap.size, 0, none⟩ = some (.int .i64 a) ∧ w'.cell? ⟨w.heap.size, 1, none⟩ = some (.int .i64 b) ∧ w'.cell? ⟨w.heap.size, 2, none⟩ = some (.int .i64 c))
        ((first | exact ⟨a0, a1, a2⟩ | (obtain ⟨g0, g1, g2, -⟩ := ‹AtO _ _ _ _ _›; exact ⟨g0, g1, g2⟩)))
        (first | (go_at_call 9; refine (D8.out _ _ _ (HA.out.below (Below.refl _ _).drew) HB.out.drew).mono ?_; rintro e w2 ⟨rfl, ha, hb⟩))
      clear HA HB a0 a1 a2
      have HA := Lib.hid ha
      have HB := Lib.hid hb
      obtain ⟨a0, a1, a2, -⟩ := ha
      clear hb
      go_wp2_with fail
      go_at_call 9
      refine (D5.out _ _ _ HA.out HB.out).mono ?_
      clear HA HB a0 a1 a2
      rintro e w2 ⟨rfl, ha, hb⟩
      have HA := Lib.hid ha
      have HB := Lib.hid hb
      obtain ⟨a0, a1, a2, -⟩ := ha
      clear hb
      go_wp2_with fail
      go_at_call 11
      refine (D6.out _ _ _ HA.out HB.out).mono ?_
      clear HA HB a0 a1 a2
      rintro e w2 ⟨rfl, ha, hb⟩
      have HA := Lib.hid ha
      have HB := Lib.hid hb
      obtain ⟨a0, a1, a2, -⟩ := ha
      clear hb
      cases z
      · have hne : ((wb (Cox.nf T v)).toList == (wb n).toList) = false := by
          rw [wb_beq]
          have := HZ.out
          simp only [decide_eq_false_iff_not] at this ⊢
          exact fun e => this e.symm
        go_wp2_with fail
        go_at_call 9
        refine (D7.out _ _ _ HA.out HB.out).mono ?_
        clear HA HB a0 a1 a2
        rintro e w2 ⟨rfl, ha, hb⟩
        have HA := Lib.hid ha
        have HB := Lib.hid hb
        obtain ⟨a0, a1, a2, -⟩ := ha
        clear hb
        go_wp2
        go_ret
        exact ⟨rfl, HB.out⟩
      · have hnv : Cox.nf T v = n := by
          have := HZ.out
          simp only [decide_eq_true_eq] at this
          exact this.symm
        obtain ⟨m1, m2⟩ := HM.out hnv
        rcases Nat.lt_or_eq_of_le m1 with m3 | m3
        · clear m1 m2 hnv
          go_wp2
          go_ret
          exact ⟨rfl, HB.out⟩
        · have hx := m2 m3
          rw [← less_wb] at hx
          have m4 : v.length ≤ n.length := by omega
          have m5 : (v.length : Int) = (n.length : Int) := by omega
          have m6 : ¬ n.length < v.length := by omega
          clear m1 m2 m3 hnv
          go_wp2
          go_ret
          exact ⟨rfl, HB.out⟩
end
end Go.Proofs.Ytlhmfaelkkiahaa
