import Derived.Test.YtlhmfaelkkiahaaSt3
namespace Go.Proofs.Ytlhmfaelkkiahaa
open Go.RowKit
open Cox (Tl)

theorem alt_of (m : Nat) : ∀ (u v : Fin 3) (l : List (Fin 3)), l.length = m → (∀ i (h : i < l.length), l[i] = Cox.nx u v i) → l = Cox.alt u v m := by
  induction m with
  | zero => intro u v l h _; exact List.eq_nil_of_length_eq_zero h
  | succ m ih =>
    intro u v l h hi
    cases l with
    | nil => simp at h
    | cons z l =>
      have h0 : z = u := hi 0 (by simp)
      have := ih v u l (by simpa using h) (fun i h2 => by
        have := hi (i + 1) (by simpa using h2)
        rw [Cox.nx_succ] at this
        simpa using this)
      rw [h0, this]; rfl
theorem row_of {l : List (Fin 3)} {p m : Nat} (hpm : p + m ≤ l.length) {u v : Fin 3} (h : ∀ i, i < m → ∀ h : p + i < l.length, l[p + i] = Cox.nx u v i) : l = l.take p ++ Cox.alt u v m ++ l.drop (p + m) := by
  have e : (l.drop p).take m = Cox.alt u v m := by
    refine alt_of m u v _ (by simp; omega) fun i hi => ?_
    simp only [List.length_take, List.length_drop] at hi
    rw [List.getElem_take, List.getElem_drop]
    exact h i (by omega) (by omega)
  rw [← e, List.append_assoc, ← List.drop_drop, List.take_append_drop, List.take_append_drop]

set_option maxRecDepth 100000 in
set_option maxHeartbeats 4000000 in
theorem stepped_row (a b c : Int) (l : List (Fin 3)) (hl : l.length ≤ 1000) (p : Nat) (hp : p < l.length) (x : Fin 3) (hne : l[p] ≠ x)
    (m : Nat) (hm : (if ((l[p].val : Nat) : Int) + (x.val : Int) = 1 then a else if ((l[p].val : Nat) : Int) + (x.val : Int) = 3 then b else c) = m) (h12 : m ≤ 12) (hm0 : m ≠ 0) (hpm : p + m ≤ l.length) (w : World) :
    Calls Try.prog 10 #[oval a b c, .string (wb l), sval 2 p (x.val : Int)] w fun e w' => ∃ l', e = .returned (.string (wb l')) ∧ Below w.heap.size w w' ∧
      (l' = l ∨ (l = l.take p ++ Cox.alt l[p] x m ++ l.drop (p + m) ∧ l' = l.take p ++ Cox.alt x l[p] m ++ l.drop (p + m))) := by
  have zl := wb_size l
  have h1 : ¬ (p : Int) < 0 := by omega
  have h2 : ¬ (l.length : Int) < (p : Int) := by omega
  have h2' : (p : Int) ≤ (l.length : Int) := by omega
  have h2'' : (0 : Int) ≤ (p : Int) := by omega
  have h5 : (p : Int) < (l.length : Int) := by omega
  have hd : decide ((l.length : Int) ≤ (p : Int)) = false := by simpa using h5
  have hne' : ((l[p].val : Nat) : Int) ≠ (x.val : Int) := fun e => hne (Fin.ext (by omega))
  have hy := l[p].isLt
  have hx := x.isLt
  have h3 : ¬ (x.val : Int) < 0 := by omega
  have h4 : ¬ 2 < (x.val : Int) := by omega
  have h6 : 0 ≤ ((l[p].val : Nat) : Int) ∧ ((l[p].val : Nat) : Int) ≤ 2 := by omega
  have hw : IntKind.i64.wrap ((l[p].val : Nat) : Int) = ((l[p].val : Nat) : Int) := by rw [IntKind.wrap_i64]; omega
  have HBt := Lib.hid (over2 (fun w => by have := between_any a b c ((l[p].val : Nat) : Int) (x.val : Int) h6 (by omega) w; rw [hm] at this; exact this) a b c 2 p (x.val : Int))
  have hd2 : (((l[p].val : Nat) : Int) == (x.val : Int)) = false := by simpa using hne'
  have hm1 : ((m : Int) == 0) = false := by simpa using hm0
  have hm2 : ¬ (l.length : Int) < (p : Int) + (m : Int) := by omega
  have hm3 : (0 : Int) ≤ (p : Int) + (m : Int) := by omega
  have HLx := Lib.hid (over2 (fun w => letter_any x w) a b c 2 p (x.val : Int))
  have HLy := Lib.hid (over2 (fun w => letter_any l[p] w) a b c 2 p (x.val : Int))
  have HIX := Lib.hid (fun i h W => index_wb l i h W)
  have i0 := fun W => index_wb l p hp W
  clear hm
  unfold oval sval at *
  obtain ⟨X, hX⟩ : ∃ X : Fin 3, X = x := ⟨_, rfl⟩
  obtain ⟨Y, hY⟩ : ∃ Y : Fin 3, Y = l[p] := ⟨_, rfl⟩
  obtain ⟨L, hL⟩ : ∃ L, L = l := ⟨_, rfl⟩
  have EX : Hid (((X.val : Nat) : Int) = (x.val : Int)) := Lib.hid (by rw [hX])
  have EY : Hid (((Y.val : Nat) : Int) = (l[p].val : Int)) := Lib.hid (by rw [hY])
  have ES : Hid (wb L = wb l) := Lib.hid (by rw [hL])
  clear hy hx
  generalize (x.val : Int) = xi at *
  generalize ((l[p].val : Nat) : Int) = yi at *
  have ha := AtO.newT 2 p xi (w.alloc (.cells #[.int .i64 a, .int .i64 b, .int .i64 c] 23)) 32
  rw [World.size_alloc] at ha
  have ha0 : AtO a b c w.heap.size ((w.alloc (.cells #[.int .i64 a, .int .i64 b, .int .i64 c] 23)).alloc (.cells #[.int .i64 2, .int .i64 p, .int .i64 xi] 32)) := (AtO.new a b c w).below ((Below.refl _ _).alloc (Nat.le_refl _) _)
  have hb := ((Below.refl w.heap.size w).alloc (Nat.le_refl _) (.cells #[.int .i64 a, .int .i64 b, .int .i64 c] 23)).alloc (by simp) (.cells #[.int .i64 2, .int .i64 p, .int .i64 xi] 32)
  have HB := Lib.hid hb
  have HA := Lib.hid ha
  have HA0 := Lib.hid ha0
  obtain ⟨a0, a1, a2, -⟩ := ha
  obtain ⟨o0, o1, o2, -⟩ := ha0
  clear hb
  generalize hgS : wb l = S at zl i0 ES ⊢
  clear hgS
  go_enter Try.func10, Try.ntmps10
  go_wp2_with fail
  go_quiet (fail)
  all_goals
    go_wp2_with fail
    go_region_held3 (fun w' => (w'.cell? ⟨w.heap.size + 1, 0, none⟩ = some (.int .i64 2) ∧ w'.cell? ⟨w.heap.size + 1, 1, none⟩ = some (.int .i64 p) ∧ w'.cell? ⟨w.heap.size + 1, 2, none⟩ = some (.int .i64 xi)) ∧ (w'.cell? ⟨w.heap.size, 0, none⟩ = some (.int .i64 a) ∧ w'.cell? ⟨w.heap.size, 1, none⟩ = some (.int .i64 b) ∧ w'.cell? ⟨w.heap.size, 2, none⟩ = some (.int .i64 c)))
      ((first | exact ⟨⟨a0, a1, a2⟩, o0, o1, o2⟩ | (obtain ⟨g0, g1, g2, -⟩ := ‹AtO a b c _ _›; obtain ⟨k0, k1, k2, -⟩ := ‹AtO 2 _ _ _ _›; exact ⟨⟨k0, k1, k2⟩, g0, g1, g2⟩)))
      (first | (go_at_call 29; with_reducible refine (HBt.out _ _ _ _ (HA0.out.below (below_drewN (Below.refl _ _) _)) (HA.out.below (below_drewN (Below.refl _ _) _)) (below_drewN HB.out _)).mono ?_; rintro e w2 ⟨rfl, ha, ha', hb⟩))
  all_goals
    clear HA HA0 HB a0 a1 a2 o0 o1 o2
    have HA0 := Lib.hid ha
    have HA := Lib.hid ha'
    have HB := Lib.hid hb
    obtain ⟨a0, a1, a2, -⟩ := ha'
    clear hb ha
    go_wp2_with fail
  all_goals
    go_loopw [8, 9] (fun r k wr => ∃ j : Nat, k = .int .i64 j ∧ j ≤ m ∧ Hid (r = .string (wb (Cox.alt x l[p] j)) ∧ AtO a b c w.heap.size wr ∧ AtO 2 p xi (w.heap.size + 1) wr ∧ Below w.heap.size w wr ∧ ∀ i, i < j → ∀ h : p + i < l.length, l[p + i] = Cox.nx l[p] x i)) (fun _ k _ => m - (intOf k).toNat)
    case atStart => exact ⟨0, rfl, by omega, Lib.hid ⟨rfl, HA0.out, HA.out, HB.out, fun i h => by omega⟩⟩
    case round =>
      obtain ⟨j, rfl, hj, HJ⟩ := hrel
      obtain ⟨rfl, g0, g1, g2, g3⟩ := HJ.out
      have HG0 := Lib.hid g0
      have HG1 := Lib.hid g1
      have HG2 := Lib.hid g2
      have HG3 := Lib.hid g3
      obtain ⟨a0, a1, a2, -⟩ := g1
      clear g0 g2 g3 HJ
      by_cases hjm : j < m
      · have j1 : (j : Int) < (m : Int) := by omega
        have j2 : p + j < l.length := by omega
        have j3 : (p : Int) + (j : Int) < (l.length : Int) := by omega
        have j4 : 0 ≤ (p : Int) + (j : Int) := by omega
        have i1 := HIX.out (p + j) j2
        rw [Int.natCast_add, show wb l = S from hL ▸ ES.out] at i1
        have z0 : 0 ≤ ((l[p + j].val : Nat) : Int) ∧ ((l[p + j].val : Nat) : Int) ≤ 2 := by have := l[p + j].isLt; omega
        obtain ⟨Z, hZ⟩ : ∃ Z : Fin 3, Z = l[p + j] := ⟨_, rfl⟩
        have EZ : Hid (((Z.val : Nat) : Int) = (l[p + j].val : Int)) := Lib.hid (by rw [hZ])
        generalize ((l[p + j].val : Nat) : Int) = zi at *
        have hwz : IntKind.i64.wrap zi = zi := by rw [IntKind.wrap_i64]; omega
        have hrow := wb_append (Cox.alt x l[p] j) [Cox.nx x l[p] j]
        rw [← Cox.alt_snoc] at hrow
        have hsz : (wb (Cox.alt x l[p] j)).size = j := by rw [wb_size, Cox.alt_length]
        have hs1 : (wb [Cox.nx x l[p] j]).size = 1 := by rw [wb_size]; rfl
        have hsn : ¬ 9223372036854775807 < j + 1 := by omega
        generalize wb (Cox.alt x l[p] j) = R at *
        obtain ⟨R', hR'⟩ : ∃ R', R' = wb (Cox.alt x l[p] (j + 1)) := ⟨_, rfl⟩
        rw [← hR'] at hrow
        have HR' := Lib.hid hR'
        clear hR'
        rcases Nat.mod_two_eq_zero_or_one j with hr | hr
        · have hr1 : (j : Int).tmod 2 = 0 := by rw [Int.tmod_eq_emod_of_nonneg (by omega)]; omega
          have hn1 : Cox.nx x l[p] j = x := by unfold Cox.nx; rw [if_pos hr]
          have hn2 : Cox.nx l[p] x j = l[p] := by unfold Cox.nx; rw [if_pos hr]
          rw [hn1] at hrow hs1
          have HN2 := Lib.hid hn2
          clear hn1 hn2
          generalize wb [x] = D at *
          by_cases hz : zi = yi
          · have hz1 : (zi != yi) = false := by simpa using hz
            go_wp2_with fail
            go_at_call 28
            refine (HLx.out _ _ _ _ HG0.out HG1.out HG2.out).mono ?_
            rintro e w4 ⟨rfl, ha, ha', hb⟩
            have HG0 := Lib.hid ha
            have HG1 := Lib.hid ha'
            have HG2 := Lib.hid hb
            clear ha ha' hb
            go_wp2_with fail
            go_roundw
            case rel =>
              refine ⟨j + 1, by go_num, by omega, Lib.hid ⟨by rw [HR'.out], HG0.out, HG1.out, HG2.out, ?_⟩⟩
              intro i hi h
              rcases Nat.lt_or_ge i j with h9 | h9
              · exact HG3.out i h9 h
              · have : i = j := by omega
                subst this
                rw [HN2.out, ← hY, ← hZ]
                exact Fin.ext (by have := EZ.out; have := EY.out; omega)
            case measure => simp [intOf]; omega
          · have hz1 : (zi != yi) = true := by simpa using hz
            go_wp2
            go_ret
            refine ⟨l, ?_, HG2.out, .inl rfl⟩
            rw [show wb l = S from hL ▸ ES.out]
            first | rfl | simp [go_sem]
        · have hr1 : (j : Int).tmod 2 = 1 := by rw [Int.tmod_eq_emod_of_nonneg (by omega)]; omega
          have hn1 : Cox.nx x l[p] j = l[p] := by unfold Cox.nx; rw [if_neg (by omega)]
          have hn2 : Cox.nx l[p] x j = x := by unfold Cox.nx; rw [if_neg (by omega)]
          rw [hn1] at hrow hs1
          have HN2 := Lib.hid hn2
          clear hn1 hn2
          generalize wb [l[p]] = D at *
          by_cases hz : zi = xi
          · have hz1 : (zi != xi) = false := by simpa using hz
            go_wp2_with fail
            go_at_call 28
            refine (HLy.out _ _ _ _ HG0.out HG1.out HG2.out).mono ?_
            rintro e w4 ⟨rfl, ha, ha', hb⟩
            have HG0 := Lib.hid ha
            have HG1 := Lib.hid ha'
            have HG2 := Lib.hid hb
            clear ha ha' hb
            go_wp2_with fail
            go_roundw
            case rel =>
              refine ⟨j + 1, by go_num, by omega, Lib.hid ⟨by rw [HR'.out], HG0.out, HG1.out, HG2.out, ?_⟩⟩
              intro i hi h
              rcases Nat.lt_or_ge i j with h9 | h9
              · exact HG3.out i h9 h
              · have : i = j := by omega
                subst this
                rw [HN2.out, ← hX, ← hZ]
                exact Fin.ext (by have := EZ.out; have := EX.out; omega)
            case measure => simp [intOf]; omega
          · have hz1 : (zi != xi) = true := by simpa using hz
            go_wp2
            go_ret
            refine ⟨l, ?_, HG2.out, .inl rfl⟩
            rw [show wb l = S from hL ▸ ES.out]
            first | rfl | simp [go_sem]
      · have hjm' : j = m := by omega
        subst hjm'
        have ES2 : Hid (wb l = S) := Lib.hid (hL ▸ ES.out)
        have s1 := wb_take l p
        have s2 := wb_drop l (p + j)
        rw [ES2.out] at s1 s2
        rw [zl] at s2
        have c1 := wb_append (l.take p) (Cox.alt x l[p] j)
        have c2 := wb_append (l.take p ++ Cox.alt x l[p] j) (l.drop (p + j))
        have n1 : (wb (l.take p)).size = p := by rw [wb_size, List.length_take]; omega
        have n2 : (wb (Cox.alt x l[p] j)).size = j := by rw [wb_size, Cox.alt_length]
        have n3 : (wb (l.take p ++ Cox.alt x l[p] j)).size = p + j := by rw [wb_size, List.length_append, Cox.alt_length, List.length_take]; omega
        have n4 : (wb (l.drop (p + j))).size = l.length - (p + j) := by rw [wb_size]; simp
        have t1 : ¬ 9223372036854775807 < p + j := by omega
        have t2 : ¬ 9223372036854775807 < p + j + (l.length - (p + j)) := by omega
        have q1 : (p : Int) + (j : Int) ≤ (l.length : Int) := by omega
        have q2 : 0 ≤ (p : Int) + (j : Int) := by omega
        have q3 : ((p : Int) + (j : Int)).toNat = p + j := by omega
        have hwq : IntKind.i64.wrap ((p : Int) + (j : Int)) = (p : Int) + (j : Int) := by rw [IntKind.wrap_i64]; omega
        obtain ⟨l', hl'⟩ : ∃ l', l' = l.take p ++ Cox.alt x l[p] j ++ l.drop (p + j) := ⟨_, rfl⟩
        rw [← hl'] at c2
        have HL' := Lib.hid hl'
        have HT : Hid (∃ S4, S4 = wb l') := Lib.hid ⟨_, rfl⟩
        obtain ⟨S4, hS4⟩ := HT.out
        rw [← hS4] at c2
        have HS4 := Lib.hid hS4
        clear hl' hS4 HT
        generalize wb (l.take p ++ Cox.alt x l[p] j) = T2 at *
        generalize wb (l.take p) = T1 at *
        generalize wb (l.drop (p + j)) = T3 at *
        generalize wb (Cox.alt x l[p] j) = R at *
        go_wp2_with fail
        go_quiet (fail)
        all_goals
          go_wp2
          go_ret
          refine ⟨l', ?_, by first | exact HG2.out | exact below_drewN HG2.out _, .inr ⟨row_of hpm HG3.out, HL'.out⟩⟩
          rw [← HS4.out]
          first | rfl | simp [go_sem]
end Go.Proofs.Ytlhmfaelkkiahaa
