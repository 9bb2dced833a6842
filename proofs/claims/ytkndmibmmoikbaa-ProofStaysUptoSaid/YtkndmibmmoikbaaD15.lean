/- Chapter 10: Pf9 Pf10 Ov0. -/
import Derived.Test.YtkndmibmmoikbaaD14
import Derived.Recover
import Derived.Lib.ConvBytes
set_option linter.all false
set_option maxRecDepth 100000
set_option maxHeartbeats 16000000
namespace Go.Proofs.Ytkndmibmmoikbaa
open Go.RowKit
open Cox (Tl)
def refusal (e : Int) : List PanicEntry := [{ v := .iface 99 (.agg #[.int .i64 e]), recovered := false }]
theorem need_yes (e : Int) (w : World) : Calls Try.prog 24 #[.bool true, .int .i64 e] w fun r w' => r = .returned (.tuple #[]) ∧ w = w' := by
 go_enter Try.func24, Try.ntmps24
 go_wp2
 go_end0
 exact ⟨rfl, rfl⟩
theorem need_no (e : Int) (w : World) : Calls Try.prog 24 #[.bool false, .int .i64 e] w fun r w' => r = .panicked (refusal e) ∧ w = w' := by
 have hp : ∀ (v : Value) (w : World), (Instr.panic (.iface 99 v)).run Try.prog w = .halt (.panic (.iface 99 v)) w := fun _ _ => rfl
 go_enter Try.func24, Try.ntmps24
 go_wp2
 exact ⟨rfl, rfl, rfl⟩
theorem must_yes (w : World) : Calls Try.prog 26 #[.int .i64 0] w fun r w' => r = .returned (.tuple #[]) ∧ w = w' := by
 go_enter Try.func26, Try.ntmps26
 go_wp2_with (go_at_call 24; refine (need_yes _ _).mono ?_; rintro e w2 ⟨rfl, rfl⟩)
 go_end0
 exact ⟨rfl, rfl⟩
theorem must_no (e : Int) (h : e ≠ 0) (w : World) : Calls Try.prog 26 #[.int .i64 e] w fun r w' => r = .panicked (refusal e) ∧ w = w' := by
 have h2 : (e == 0) = false := by simpa using h
 go_enter Try.func26, Try.ntmps26
 go_wp2_with (go_at_call 24; refine (need_no _ _).mono ?_; rintro e2 w2 ⟨rfl, rfl⟩)
 exact ⟨rfl, rfl, rfl⟩
theorem caught_nil (w : World) : Calls Try.prog 20 #[.nilIface] w fun r w' => r = .returned (.int .i64 0) ∧ w' = w := by
 go_enter Try.func20, Try.ntmps20
 go_wp2_with fail
 go_ret
 exact ⟨rfl, rfl⟩
theorem caught_err (e : Int) (w : World) : Calls Try.prog 20 #[.iface 99 (.agg #[.int .i64 e])] w fun r w' => r = .returned (.int .i64 e) ∧ Below w.heap.size w w' := by
 have hta : ∀ w, (Instr.typeAssert (.iface 99 (.agg #[.int .i64 e])) 20 99 true).run Try.prog w = .ok (.tuple #[.agg #[.int .i64 e], .bool true]) w := fun w => by kernel_rfl
 have hne : ∀ w, (binOp .eql 20 (.iface 99 (.agg #[.int .i64 e])) .nilIface).run Try.prog w = .ok (.bool false) w := fun w => by kernel_rfl
 go_enter Try.func20, Try.ntmps20
 go_wp2_with fail
 go_ret
 exact ⟨rfl, (Below.refl _ _).alloc (Nat.le_refl _) _⟩
theorem fits1_panicking (p : Nat) (x y : Int) (older : List PanicEntry) (w : World) (hc : w.heap[p]? = some (.cells #[.int .i64 x] 30 (0, 0))) :
 CallsD Try.prog 19 #[.pointer (some ⟨p, 0, none⟩)] (.panicking ({ v := .iface 99 (.agg #[.int .i64 y]), recovered := false } :: older)) w fun e u' w' =>
  e = .returned (.tuple #[]) ∧ u' = .panicking ({ v := .iface 99 (.agg #[.int .i64 y]), recovered := true } :: older) ∧ ∃ w1, Below w.heap.size w w1 ∧ w' = w1.setCell ⟨p, 0, none⟩ (.int .i64 y) := by
 refine callsD_of_wpS Try.func19 rfl fun c₀ cs hu => ?_
 apply wpS_region
 simp [wpOpsS, go_sem, recoverD, hu, Try.ntmps19, Exit.thenS]
 refine (caught_err y w).mono ?_
 rintro e w1 ⟨rfl, hb⟩
 have hpl := (Array.getElem?_eq_some_iff.1 hc).1
 have h1 := (hb.block p hpl).trans hc
 have h2 := cell_of h1 0
 have h3 := free_of h1 0
 simp at h2
 simp [go_sem, h2, h3, bodyPostS, results, Try.results19]
 exact ⟨w1, hb, rfl⟩
theorem fits1_idle (p : Nat) (x : Int) (w : World) (hc : w.heap[p]? = some (.cells #[.int .i64 x] 30 (0, 0))) :
 CallsD Try.prog 19 #[.pointer (some ⟨p, 0, none⟩)] .returning w fun e u' w' => e = .returned (.tuple #[]) ∧ u' = .returning ∧ w' = w.setCell ⟨p, 0, none⟩ (.int .i64 0) := by
 have h2 := cell_of hc 0
 have h3 := free_of hc 0
 simp at h2
 refine callsD_of_wpS Try.func19 rfl fun c₀ cs hu => ?_
 apply wpS_region
 simp [wpOpsS, go_sem, recoverD, hu, Try.ntmps19, Exit.thenS]
 refine (caught_nil w).mono ?_
 rintro e w1 ⟨rfl, rfl⟩
 cases c₀
 simp_all [go_sem, bodyPostS, results, Try.results19]
end Go.Proofs.Ytkndmibmmoikbaa
namespace Go.Proofs.Ytkndmibmmoikbaa
open Go.RowKit
open Cox (Tl)
theorem bytes_new (w : World) (s : ByteArray) :
 ∃ C W1, (convert 9 104 (.string s)).run Try.prog w = .ok (.slice (some ⟨w.heap.size, 0, none⟩) s.size C) W1 ∧ Below w.heap.size w W1 ∧ w.heap.size < W1.heap.size ∧
  ∀ i (h : i < s.size), W1.cell? ⟨w.heap.size, i, none⟩ = some (.int .u8 ((s[i]'h).toNat : Int)) := by
 refine ⟨_, _, Lib.run_convert_string_bytes (P := Try.prog) w 9 104 5 s Try.underlying9 Try.underlying104 Try.underlying5, ⟨rfl, rfl, rfl, ?_, fun b hb => Lib.bytesWorld_at_old w 5 s b hb⟩, ?_, ?_⟩
 · rw [Lib.bytesWorld_size]; omega
 · rw [Lib.bytesWorld_size]; omega
 · intro i h
   rw [Lib.bytesWorld_cell w 5 s i h]
   have e : s.data.toList.getD i 0 = s[i]'h := by
    have h' : i < s.data.toList.length := by simpa using h
    rw [List.getD, List.getElem?_eq_getElem h']; rfl
   rw [e]
theorem isword1_any (n : Int) (w : World) : Calls Try.prog 54 #[.int .u8 n] w fun e w' => e = .returned (.bool (decide (2 < n))) ∧ w = w' := by
 by_cases h : 2 < n
 · rw [decide_eq_true h]
   go_enter Try.func54, Try.ntmps54
   go_wp2
   go_ret
   exact ⟨rfl, rfl⟩
 · rw [decide_eq_false h]
   go_enter Try.func54, Try.ntmps54
   go_wp2
   go_ret
   exact ⟨rfl, rfl⟩
def badAt (s : ByteArray) (r : Int) : Prop := (r = -1 ∧ ∀ (i : Nat) (h : i < s.size), (s[i]'h).toNat ≤ 2) ∨ ∃ (k : Nat) (h : k < s.size), r = k ∧ 2 < (s[k]'h).toNat
theorem indexfunc_any (s : ByteArray) (b C : Nat) (hs : s.size ≤ maxLen) (w : World) (hc : ∀ i (h : i < s.size), w.cell? ⟨b, i, none⟩ = some (.int .u8 ((s[i]'h).toNat : Int))) :
 Calls Try.prog 68 #[.slice (some ⟨b, 0, none⟩) s.size C, .func (.func 54) #[] #[]] w fun e w' => (∃ r, e = .returned (.int .i64 r) ∧ badAt s r) ∧ w = w' := by
 unfold maxLen at hs
 have HC := Lib.hid hc
 clear hc
 go_enter Try.func68, Try.ntmps68
 go_wp2_with fail
 go_loop [8] (fun t => ∃ k : Nat, k ≤ s.size ∧ t = .int .i64 k ∧ Hid (∀ (i : Nat) (h : i < s.size), i < k → (s[i]'h).toNat ≤ 2)) (fun t => s.size - (intOf t).toNat)
 case atStart => exact ⟨0, Nat.zero_le _, rfl, Lib.hid fun i _ hi => by omega⟩
 case round =>
  obtain ⟨k, hk, rfl, HK⟩ := hrel
  by_cases hlt : k < s.size
  · have hc := HC.out k hlt
    have k1 : (k : Int) < (s.size : Int) := by omega
    by_cases h2 : 2 < (s[k]'hlt).toNat
    · have IW := Hi (isword1_any ((s[k]'hlt).toNat : Int) w)
      have hd : decide ((2 : Int) < ((s[k]'hlt).toNat : Int)) = true := decide_eq_true (by omega)
      rw [hd] at IW
      have HF : Hid (badAt s (k : Int)) := Hi (.inr ⟨k, hlt, rfl, h2⟩)
      generalize ((s[k]'hlt).toNat : Int) = bv at *
      clear h2 hd
      go_wp2_with (go_at_call 54; refine IW.out.mono ?_; rintro e w2 ⟨rfl, rfl⟩)
      go_ret
      exact ⟨⟨_, rfl, HF.out⟩, rfl⟩
    · have HN : Hid (∀ (i : Nat) (h : i < s.size), i < k + 1 → (s[i]'h).toNat ≤ 2) := Lib.hid fun i h hi => by
       by_cases e : i = k
       · subst e; omega
       · exact HK.out i h (by omega)
      have IW := Hi (isword1_any ((s[k]'hlt).toNat : Int) w)
      have hd : decide ((2 : Int) < ((s[k]'hlt).toNat : Int)) = false := decide_eq_false (by omega)
      rw [hd] at IW
      generalize ((s[k]'hlt).toNat : Int) = bv at *
      clear h2 hd
      go_wp2_with (go_at_call 54; refine IW.out.mono ?_; rintro e w2 ⟨rfl, rfl⟩)
      go_round
      case rel => exact ⟨k + 1, by omega, by go_num, HN⟩
      case measure => simp [intOf]; omega
  · have HF : Hid (badAt s (-1)) := Hi (.inl ⟨rfl, fun i h => HK.out i h (by omega)⟩)
    go_wp2_with fail
    go_ret
    exact ⟨⟨_, rfl, HF.out⟩, rfl⟩
theorem badAt_bad {s : ByteArray} {r : Int} (h : badAt s r) : (0 ≤ r ↔ badW s) := by
 rcases h with ⟨rfl, h⟩ | ⟨k, h1, rfl, h2⟩
 · constructor
   · intro h; omega
   · rintro ⟨i, h1, h2⟩
     have := h i h1; omega
 · exact ⟨fun _ => ⟨k, h1, h2⟩, fun _ => by omega⟩
theorem containsfunc_any (s : ByteArray) (b C : Nat) (hs : s.size ≤ maxLen) (w : World) (hc : ∀ i (h : i < s.size), w.cell? ⟨b, i, none⟩ = some (.int .u8 ((s[i]'h).toNat : Int))) :
 Calls Try.prog 53 #[.slice (some ⟨b, 0, none⟩) s.size C, .func (.func 54) #[] #[]] w fun e w' => (∃ r, e = .returned (.bool r) ∧ (r = true ↔ badW s)) ∧ w = w' := by
 have IF := Hi (indexfunc_any s b C hs w hc)
 clear hc
 go_enter Try.func53, Try.ntmps53
 go_wp2_with (go_at_call 68; refine IF.out.mono ?_; rintro e w2 ⟨⟨r, rfl, hr⟩, rfl⟩; have HB := Hi (badAt_bad hr); clear hr)
 go_ret
 exact ⟨⟨_, rfl, by rw [← HB.out]; simp⟩, rfl⟩
theorem isword_any (s : ByteArray) (hs : s.size ≤ maxLen) (w : World) : Calls Try.prog 28 #[.string s] w fun e w' => e = .returned (.int .i64 (cw s)) ∧ Below w.heap.size w w' := by
 obtain ⟨C, W1, hcv, hb, hlt, hcell⟩ := bytes_new w s
 have CF := Hi (containsfunc_any s w.heap.size C hs W1 hcell)
 have HB := Lib.hid hb
 clear hb hcell hlt
 unfold maxLen at hs
 by_cases hbad : badW s
 · have HC := Hi (cw_bad hbad)
   have HBAD := Lib.hid hbad
   clear hbad
   go_enter Try.func28, Try.ntmps28
   go_wp2_with (go_at_call 53; refine CF.out.mono ?_; rintro e w2 ⟨⟨r, rfl, hr⟩, rfl⟩; obtain rfl : r = true := hr.2 HBAD.out; clear hr)
   go_ret
   exact ⟨by rw [HC.out]; rfl, HB.out⟩
 · have HBAD := Lib.hid hbad
   by_cases h60 : 60 < s.size
   · have HC := Hi (cw_long hbad h60)
     have i60 : (60 : Int) < (s.size : Int) := by omega
     clear hbad
     go_enter Try.func28, Try.ntmps28
     go_wp2_with (go_at_call 53; refine CF.out.mono ?_; rintro e w2 ⟨⟨r, rfl, hr⟩, rfl⟩; obtain rfl : r = false := Bool.eq_false_iff.2 (fun h => HBAD.out (hr.1 h)); clear hr)
     go_ret
     exact ⟨by rw [HC.out]; rfl, HB.out⟩
   · have HC := Hi (cw_ok hbad h60)
     have i60 : ¬ (60 : Int) < (s.size : Int) := by omega
     have d60 : decide ((60 : Int) < (s.size : Int)) = false := by simpa using i60
     clear hbad
     go_enter Try.func28, Try.ntmps28
     go_wp2_with (go_at_call 53; refine CF.out.mono ?_; rintro e w2 ⟨⟨r, rfl, hr⟩, rfl⟩; obtain rfl : r = false := Bool.eq_false_iff.2 (fun h => HBAD.out (hr.1 h)); clear hr)
     go_ret
     exact ⟨by rw [HC.out]; rfl, HB.out⟩
theorem isallowed_any (a b c : Int) (w : World) : Calls Try.prog 27 #[oval a b c] w fun e w' => e = .returned (.int .i64 (chk a b c)) ∧ Below w.heap.size w w' := by
 unfold oval
 have i0 : ∀ w, (Instr.index 103 (.agg #[.int .i64 a, .int .i64 b, .int .i64 c]) (.int .i64 0)).run Try.prog w = .ok (.int .i64 a) w := fun _ => by kernel_rfl
 have i1 : ∀ w, (Instr.index 103 (.agg #[.int .i64 a, .int .i64 b, .int .i64 c]) (.int .i64 1)).run Try.prog w = .ok (.int .i64 b) w := fun _ => by kernel_rfl
 have i2 : ∀ w, (Instr.index 103 (.agg #[.int .i64 a, .int .i64 b, .int .i64 c]) (.int .i64 2)).run Try.prog w = .ok (.int .i64 c) w := fun _ => by kernel_rfl
 have hix : ∀ k, k < 3 → ∀ w, (Instr.index 103 (.agg #[.int .i64 a, .int .i64 b, .int .i64 c]) (.int .i64 (k : Nat))).run Try.prog w = .ok (.int .i64 (at3 a b c k)) w := by
  intro k hk
  have : k = 0 ∨ k = 1 ∨ k = 2 := by omega
  rcases this with rfl | rfl | rfl
  · exact i0
  · exact i1
  · exact i2
 have HIX := Lib.hid hix
 clear i0 i1 i2 hix
 go_enter Try.func27, Try.ntmps27
 go_wp2_with fail
 go_loopw [3, 4, 16] (fun x y t wr => ∃ (k lv sm : Nat), x = .int .i64 lv ∧ y = .int .i64 sm ∧ t = .int .i64 k ∧ k ≤ 3 ∧ Hid ((accs a b c k).1 = lv ∧ rsum a b c k = sm ∧ (∀ j, j < k → ¬ badO (at3 a b c j)) ∧ Below w.heap.size w wr)) (fun _ _ t _ => 3 - (intOf t).toNat)
 case atStart => exact ⟨0, 1, 0, rfl, rfl, rfl, by omega, Lib.hid ⟨rfl, rfl, fun j hj => by omega, ((Below.refl _ _).alloc (Nat.le_refl _) _)⟩⟩
 case round =>
  obtain ⟨k, lv, sm, rfl, rfl, rfl, hk, HK⟩ := hrel
  have hbd := (accs_bound a b c k hk HK.out.2.2.1).1
  rw [HK.out.1] at hbd
  have hsb := rsum_le a b c k
  rw [HK.out.2.1] at hsb
  by_cases hlt : k < 3
  · have ix := HIX.out k hlt
    have hcb := @chk_bad a b c k hlt
    have hsucc := accs_succ a b c k hlt
    have hsm : rsum a b c (k + 1) = if at3 a b c k = 0 then sm else sm + 27720 / (at3 a b c k).toNat := by
     rw [← HK.out.2.1]; rfl
    have hl2 : (accs a b c (k + 1)).1 = if (at3 a b c k).toNat = 0 then lv else lv / Nat.gcd lv (at3 a b c k).toNat * (at3 a b c k).toNat := by
     rw [hsucc]; unfold acc
     split
     · exact HK.out.1
     · rw [← HK.out.1]
    have HSU := Hi (And.intro hsm hl2)
    have hall : ¬ badO (at3 a b c k) → ∀ j, j < k + 1 → ¬ badO (at3 a b c j) := by
     intro h j hj
     by_cases e : j = k
     · subst e; exact h
     · exact HK.out.2.2.1 j (by omega)
    have HA := Lib.hid hall
    clear hall hsucc hsm hl2
    generalize at3 a b c k = m at *
    by_cases hbad : badO m
    · have hc := hcb hbad
      have HC := Lib.hid hc
      have hbad' := hbad
      unfold badO at hbad'
      have hn0 : (m == 0) = false := by rw [beq_eq_false_iff_ne]; omega
      clear hc hcb hbad HA HSU
      by_cases h1 : m < 2
      · clear hbad'
        go_wp2_with fail
        go_ret
        exact ⟨by rw [HC.out]; rfl, HK.out.2.2.2⟩
      · have h3 : 12 < m := by omega
        clear hbad'
        go_wp2_with fail
        go_ret
        exact ⟨by rw [HC.out]; rfl, HK.out.2.2.2⟩
    · have hrng : m = 0 ∨ (2 ≤ m ∧ m ≤ 12) := by unfold badO at hbad; omega
      have HA2 := Hi (HA.out hbad)
      clear hbad hcb HA
      rcases hrng with rfl | ⟨h2, h12⟩
      · go_wp2_with fail
        go_roundw
        case rel => exact ⟨k + 1, lv, sm, rfl, rfl, by go_num, by omega, Lib.hid ⟨by rw [HSU.out.2]; rfl, by rw [HSU.out.1]; rfl, HA2.out, HK.out.2.2.2⟩⟩
        case measure => simp [intOf]; omega
      · obtain ⟨mn, rfl⟩ : ∃ mn : Nat, m = mn := ⟨m.toNat, by omega⟩
        have hn0 : ((mn : Int) == 0) = false := by rw [beq_eq_false_iff_ne]; omega
        have hdl : 27720 / mn ≤ 27720 := Nat.div_le_self _ _
        have hq1 : ((27720 : Int) / (mn : Int)) ≤ 27720 := by
         have : ((27720 / mn : Nat) : Int) = (27720 : Int) / (mn : Int) := Int.natCast_ediv _ _
         omega
        have hq0 : 0 ≤ ((27720 : Int) / (mn : Int)) := Int.ediv_nonneg (by omega) (by omega)
        have HQS : Hid (Value.int .i64 ((sm : Int) + (27720 : Int) / (mn : Int)) = .int .i64 ((sm + 27720 / mn : Nat) : Int)) := Hi (congrArg (Value.int .i64) (by rw [Int.natCast_add, Int.natCast_ediv]; rfl))
        go_wp2_with fail
        go_loopw [7, 8] (fun s t wq => ∃ (x y n : Nat), s = .int .i64 x ∧ t = .int .i64 y ∧ Hid (Nat.gcd x y = Nat.gcd lv mn) ∧ x < 1000000000 ∧ y < 1000000000 ∧ wq = wr.drewN n) (fun _ t _ => (intOf t).toNat)
        case atStart => exact ⟨lv, mn, 0, rfl, rfl, Lib.hid rfl, by omega, by omega, rfl⟩
        case round =>
         obtain ⟨x, y, n, rfl, rfl, HG, hx, hy, rfl⟩ := hrel
         by_cases h : y = 0
         · have hg := HG.out
           subst h
           rw [Nat.gcd_zero_right] at hg
           have hg0 : 0 < x := by rw [hg]; exact Nat.gcd_pos_of_pos_right _ (by omega)
           have hdl2 : lv / x ≤ lv := Nat.div_le_self _ _
           have hml : lv / x * mn ≤ 2028 * 12 := Nat.mul_le_mul (by omega) (by omega)
           have HG2 := Lib.hid hg
           have hx0 : ¬ (x : Int) = 0 := by omega
           have HMV : Hid (Value.int .i64 ((lv : Int) / (x : Int) * (mn : Int)) = .int .i64 ((lv / x * mn : Nat) : Int)) := Hi (congrArg (Value.int .i64) (level_cast _ _ _).symm)
           have hq1 : ((lv : Int) / (x : Int)) ≤ 2028 := by rw [← Int.natCast_ediv]; omega
           have hq0 : 0 ≤ ((lv : Int) / (x : Int)) := by rw [← Int.natCast_ediv]; exact Int.natCast_nonneg _
           have hp1 : ((lv : Int) / (x : Int)) * (mn : Int) ≤ 24336 := by rw [← Int.natCast_ediv, ← Int.natCast_mul]; omega
           have hp0 : 0 ≤ ((lv : Int) / (x : Int)) * (mn : Int) := by rw [← Int.natCast_ediv, ← Int.natCast_mul]; exact Int.natCast_nonneg _
           clear hg hdl2 hml
           go_wp2_with fail
           go_roundw
           case rel => exact ⟨k + 1, lv / x * mn, sm + 27720 / mn, HMV.out, HQS.out, by go_num, by omega, Lib.hid ⟨by rw [HSU.out.2, Int.toNat_natCast, if_neg (by omega), ← HG2.out], by rw [HSU.out.1, if_neg (by omega), Int.toNat_natCast], HA2.out, HK.out.2.2.2.trans (drewN_below _ _ _)⟩⟩
           case measure => simp [intOf]; omega
         · have hy0 : 0 < y := by omega
           have hmod := Nat.mod_lt x hy0
           have hle := Nat.mod_le x y
           clear h
           go_wp2
           go_quiet (fail)
           go_wp2
           go_roundw
           case rel => exact ⟨y, x % y, _, rfl, by go_num, Hi (by rw [gcd_step]; exact HG.out), by omega, by omega, by first | rfl | (simp only [World.drewN, Nat.add_assoc]; rfl)⟩
           case measure => simp [intOf]; omega
  · have hk3 : k = 3 := by omega
    subst hk3
    have hcg := chk_good HK.out.2.2.1
    have hri := rsum_iff HK.out.2.2.1
    rw [HK.out.2.1] at hri
    rw [HK.out.1] at hcg
    by_cases h1 : 27720 ≤ sm
    · rw [if_pos (hri.2 h1)] at hcg
      have HC := Lib.hid hcg
      have h1' : (27720 : Int) ≤ (sm : Int) := by omega
      clear hcg hri h1 hsb
      go_wp2_with fail
      go_ret
      exact ⟨by rw [HC.out]; rfl, HK.out.2.2.2⟩
    · rw [if_neg (fun g => h1 (hri.1 g))] at hcg
      have h1' : ¬ (27720 : Int) ≤ (sm : Int) := by omega
      have d1 : decide ((27720 : Int) ≤ (sm : Int)) = false := by simpa using h1'
      by_cases h2 : 60 < lv
      · rw [if_pos h2] at hcg
        have HC := Lib.hid hcg
        have h2' : (60 : Int) < (lv : Int) := by omega
        clear hcg hri h1 h2 hsb
        go_wp2_with fail
        go_ret
        exact ⟨by rw [HC.out]; rfl, HK.out.2.2.2⟩
      · rw [if_neg h2] at hcg
        have HC := Lib.hid hcg
        have h2' : ¬ (60 : Int) < (lv : Int) := by omega
        have d2 : decide ((60 : Int) < (lv : Int)) = false := by simpa using h2'
        clear hcg hri h1 h2 hsb
        go_wp2_with fail
        go_ret
        exact ⟨by rw [HC.out]; rfl, HK.out.2.2.2⟩
end Go.Proofs.Ytkndmibmmoikbaa
namespace Go.Proofs.Ytkndmibmmoikbaa
open Go.RowKit
open Cox (Tl)
def BRow (w : World) (g n : Nat) (v : Nat → Int) : Prop := ∀ t, t < n → w.cell? ⟨g, t, none⟩ = some (.int .u8 (v t)) ∧ w.frozen? ⟨g, t, none⟩ = false
def rv_ (n k : Nat) (v : Nat → Int) (t : Nat) : Int := if t < k ∨ n - 1 - k < t then v (n - 1 - t) else v t
theorem BRow.put {w : World} {g n : Nat} {v : Nat → Int} (h : BRow w g n v) {i : Nat} (hi : i < n) (x : Int) : BRow (w.setCell ⟨g, i, none⟩ (.int .u8 x)) g n (fun t => if t = i then x else v t) := by
 intro t ht
 refine ⟨?_, by rw [World.frozen?_setCell]; exact (h t ht).2⟩
 by_cases e : t = i
 · subst e
   rw [World.cell?_setCell_same _ _ _ (h t ht).1]; simp
 · have e3 : (⟨g, i, none⟩ : Addr) ≠ ⟨g, t, none⟩ := fun e2 => e (by simpa using e2.symm)
   have e4 : (w.setCell ⟨g, i, none⟩ (.int .u8 x)).cell? ⟨g, t, none⟩ = w.cell? ⟨g, t, none⟩ := World.cell?_setCell_other _ _ _ _ e3
   rw [e4]
   simp [e, (h t ht).1]
theorem BRow.swap {w : World} {g n k j : Nat} {v : Nat → Int} (h : BRow w g n (rv_ n k v)) (hk : k < j) (hj : j + k + 1 = n) :
 BRow ((w.setCell ⟨g, k, none⟩ (.int .u8 (rv_ n k v j))).setCell ⟨g, j, none⟩ (.int .u8 (rv_ n k v k))) g n (rv_ n (k + 1) v) := by
 have h2 := (h.put (i := k) (by omega) (rv_ n k v j)).put (i := j) (by omega) (rv_ n k v k)
 intro t ht
 have h3 := h2 t ht
 refine ⟨?_, h3.2⟩
 rw [h3.1]
 congr 2
 unfold rv_
 show (if t = j then _ else if t = k then _ else _) = _
 by_cases e1 : t = j
 · subst e1
   rw [if_pos rfl, if_neg (by omega), if_pos (by omega)]
   congr 1; omega
 · rw [if_neg e1]
   by_cases e2 : t = k
   · subst e2
     rw [if_pos rfl, if_neg (by omega), if_pos (by omega)]
     congr 1; omega
   · rw [if_neg e2]
     by_cases e3 : t < k ∨ n - 1 - k < t
     · rw [if_pos e3, if_pos (by omega)]
     · rw [if_neg e3, if_neg (by omega)]
theorem reverse_any (g n C B : Nat) (v : Nat → Int) (w : World) (hB : B ≤ g) (hg : B ≤ w.heap.size) (h : BRow w g n v) (hn : n ≤ maxLen) :
 Calls Try.prog 73 #[.slice (some ⟨g, 0, none⟩) n C] w fun e w' => e = .returned (.tuple #[]) ∧ Below B w w' ∧ w'.heap.size = w.heap.size ∧ BRow w' g n (fun t => v (n - 1 - t)) := by
 have H0 : Hid (BRow w g n (rv_ n 0 v)) := Hi (fun t ht => by
  have := h t ht
  refine ⟨?_, this.2⟩
  rw [this.1]; unfold rv_; rw [if_neg (by omega)])
 unfold maxLen at hn
 clear h
 go_enter Try.func73, Try.ntmps73
 go_wp2_with fail
 go_loopw [2, 3] (fun s2 s3 wr => ∃ (k : Nat), s2 = .int .i64 (k : Nat) ∧ s3 = .int .i64 ((n : Int) - 1 - (k : Nat)) ∧ 2 * k ≤ n + 1 ∧ Hid (Below B w wr ∧ wr.heap.size = w.heap.size ∧ BRow wr g n (rv_ n k v))) (fun s2 _ _ => n + 1 - (intOf s2).toNat)
 case atStart => exact ⟨0, rfl, by simp, by omega, Lib.hid ⟨Below.refl _ _, rfl, H0.out⟩⟩
 case round =>
  obtain ⟨k, rfl, rfl, hk, HK⟩ := hrel
  by_cases hlt : (k : Int) < (n : Int) - 1 - (k : Int)
  · obtain ⟨j, hj⟩ : ∃ j : Nat, (n : Int) - 1 - (k : Int) = (j : Int) := ⟨n - 1 - k, by omega⟩
    have hjn : j + k + 1 = n := by omega
    have k0 : (0 : Int) ≤ (k : Int) := by omega
    have k1 : (k : Int) < (n : Int) := by omega
    have j0 : (0 : Int) ≤ (j : Int) := by omega
    have j1 : (j : Int) < (n : Int) := by omega
    obtain ⟨c1, f1⟩ := HK.out.2.2 k (by omega)
    obtain ⟨c2, f2⟩ := HK.out.2.2 j (by omega)
    have HN : Hid (Below B w ((wr.setCell ⟨g, k, none⟩ (.int .u8 (rv_ n k v j))).setCell ⟨g, j, none⟩ (.int .u8 (rv_ n k v k))) ∧ ((wr.setCell ⟨g, k, none⟩ (.int .u8 (rv_ n k v j))).setCell ⟨g, j, none⟩ (.int .u8 (rv_ n k v k))).heap.size = w.heap.size ∧ BRow ((wr.setCell ⟨g, k, none⟩ (.int .u8 (rv_ n k v j))).setCell ⟨g, j, none⟩ (.int .u8 (rv_ n k v k))) g n (rv_ n (k + 1) v)) := Lib.hid ⟨HK.out.1.trans (((Below.refl _ _).setCell hB _).setCell hB _), by simpa [World.setCell] using HK.out.2.1, HK.out.2.2.swap (by omega) hjn⟩
    have HJ := Lib.hid hjn
    have HNE : (⟨g, k, none⟩ : Addr) ≠ ⟨g, j, none⟩ := fun e => by have := congrArg Addr.off e; simp at this; omega
    rw [hj] at hlt ⊢
    generalize rv_ n k v k = vk at *
    generalize rv_ n k v j = vj at *
    clear hjn
    go_wp2_with fail
    go_region
    all_goals
     go_wp2_with fail
     go_roundw
     case rel => exact ⟨k + 1, by go_num, by have := HJ.out; congr 1; push_cast; omega, by have := HJ.out; omega, Lib.hid ⟨HN.out.1.trans ((Below.refl _ _).drew), HN.out.2.1, fun t ht => HN.out.2.2 t ht⟩⟩
     case measure => simp [intOf]; omega
  · have k1 : ¬ (k : Int) < (n : Int) - 1 - (k : Int) := hlt
    go_wp2_with fail
    go_end0
    refine ⟨rfl, HK.out.1, HK.out.2.1, fun t ht => ?_⟩
    have h3 := HK.out.2.2 t ht
    refine ⟨?_, h3.2⟩
    rw [h3.1]
    congr 2
    unfold rv_
    by_cases e3 : t < k ∨ n - 1 - k < t
    · rw [if_pos e3]
    · rw [if_neg e3]
      congr 1; omega
theorem str_of_row (l : List (Fin 3)) : strOfNums (l.map fun i => (i.val : Int)) = wb l := by
 unfold strOfNums wb
 rw [List.map_map]
 rfl
theorem conv_row (l : List (Fin 3)) {w : World} {g C : Nat} {v : Nat → Int} (h : BRow w g l.length v) (hv : ∀ t (h : t < l.length), v t = (l[t].val : Int)) :
 (convert 104 9 (.slice (some ⟨g, 0, none⟩) l.length C)).run Try.prog w = .ok (.string (wb l)) w := by
 rw [run_convert_bytes_arg w 104 5 Try.underlying104 Try.underlying5 g 0 l.length C (l.map fun i => (i.val : Int)) (by simp) (fun i hi => ?_) 9 Try.underlying9, str_of_row]
 have h1 := (h i hi).1
 rw [Nat.zero_add, h1]
 congr 2
 rw [hv i hi, List.getD, List.getElem?_map, List.getElem?_eq_getElem hi]
 rfl
theorem u8_of (i : Fin 3) : ((UInt8.ofNat i.val).toNat : Int) = (i.val : Int) := by
 rcases i with ⟨_ | _ | _ | k, hk⟩
 · rfl
 · rfl
 · rfl
 · omega
theorem bytes_free (w : World) (l : List (Fin 3)) :
 ∃ C W1, (convert 9 104 (.string (wb l))).run Try.prog w = .ok (.slice (some ⟨w.heap.size, 0, none⟩) l.length C) W1 ∧ Below w.heap.size w W1 ∧ w.heap.size < W1.heap.size ∧ BRow W1 w.heap.size l.length (fun t => ((l.getD t 0).val : Int)) := by
 have hsz := wb_size l
 have h0 := Lib.run_convert_string_bytes (P := Try.prog) w 9 104 5 (wb l) Try.underlying9 Try.underlying104 Try.underlying5
 rw [hsz] at h0
 refine ⟨_, _, h0, ⟨rfl, rfl, rfl, ?_, fun b hb => Lib.bytesWorld_at_old w 5 _ b hb⟩, ?_, ?_⟩
 · rw [Lib.bytesWorld_size]; omega
 · rw [Lib.bytesWorld_size]; omega
 · intro t ht
   refine ⟨?_, ?_⟩
   · rw [Lib.bytesWorld_cell w 5 _ t (by omega)]
     refine congrArg (fun z => some (Value.int .u8 z)) ?_
     have e : (wb l).data.toList = l.map fun i => UInt8.ofNat i.val := by simp [wb]
     rw [e]
     simp only [List.getD_eq_getElem?_getD, List.getElem?_map, List.getElem?_eq_getElem ht, Option.map_some, Option.getD_some]
     generalize l[t] = i
     exact u8_of i
   · have hc : t < (Lib.bytesCells w 5 (wb l)).size := by
      unfold Lib.bytesCells
      simp [wb]
      omega
     have hn := Lib.bytesWorld_at_new w 5 (wb l)
     generalize Lib.bytesCells w 5 (wb l) = cs at *
     generalize Lib.bytesWorld w 5 (wb l) = wz at *
     generalize cs.size = m at *
     simp only [World.frozen?, hn]
     simp
     omega
theorem pturned_any (l : List (Fin 3)) (hl : l.length ≤ maxLen) (w : World) :
 Calls Try.prog 62 #[.string (wb l)] w fun e w' => e = .returned (.string (wb l.reverse)) ∧ Below w.heap.size w w' := by
 obtain ⟨C, W1, hcv, hb, hlt, hrow⟩ := bytes_free w l
 have HB := Lib.hid hb
 have RC := Hi (reverse_any w.heap.size l.length C w.heap.size _ W1 (Nat.le_refl _) (by omega) hrow hl)
 clear hb hrow
 go_enter Try.func62, Try.ntmps62
 go_upto_region 2 with fail
 go_upto_region 3 with (go_at_call 73; refine RC.out.mono ?_; rintro e w2 ⟨rfl, hb2, hs2, hr2⟩; have HB2 := Hi (And.intro hb2 hs2); have hcv2 := (conv_row l.reverse (C := C) (v := fun t => ((l.getD (l.length - 1 - t) 0).val : Int)) (by rw [List.length_reverse]; exact hr2) (fun t ht => by
  simp at ht
  rw [List.getD, List.getElem?_eq_getElem (by omega), List.getElem_reverse]; rfl)); rw [List.length_reverse] at hcv2; clear hb2 hs2 hr2)
 go_wp2_with fail
 go_ret
 exact ⟨rfl, HB.out.trans HB2.out.1⟩
end Go.Proofs.Ytkndmibmmoikbaa
