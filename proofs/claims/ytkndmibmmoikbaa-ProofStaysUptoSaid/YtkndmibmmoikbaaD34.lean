/- Chapter 10: Sp1 La0 La1. -/
import Derived.Test.YtkndmibmmoikbaaD33
import Derived.Test.YtkndmibmmoikbaaD28
import Derived.Test.YtkndmibmmoikbaaD30
set_option linter.all false
set_option maxRecDepth 100000
set_option maxHeartbeats 16000000
namespace Go.Proofs.Ytkndmibmmoikbaa
open Go.RowKit
open Cox (Tl)
theorem ordz_bd {a b c : Int} (h : (0 ≤ a ∧ a ≤ 100) ∧ (0 ≤ b ∧ b ≤ 100) ∧ (0 ≤ c ∧ c ≤ 100)) (i j : Int) : 0 ≤ ordz a b c i j ∧ ordz a b c i j ≤ 100 := by
 unfold ordz
 split
 · omega
 · split <;> omega
theorem steps_any (a b c : Int) (hob : chk a b c = 0 → (0 ≤ a ∧ a ≤ 100) ∧ (0 ≤ b ∧ b ≤ 100) ∧ (0 ≤ c ∧ c ≤ 100)) (u v : ByteArray) (ss : List StepD) (ps : Option Addr) (cs : Nat) (w : World) (hu : u.size ≤ maxLen) (hv : v.size ≤ maxLen) (hss : StepsAt w ps ss) (hsl : ss.length ≤ maxLen) :
 Calls Try.prog 11 #[oval a b c, .string u, .string v, .slice ps ss.length cs] w fun e w' => e = .returned (.int .i64 (stepsErr a b c u v ss)) ∧ Below w.heap.size w w' := by
 obtain ⟨Q, hQ⟩ : ∃ Q : Ending → World → Prop, Q = fun e w' => e = .returned (.int .i64 (stepsErr a b c u v ss)) ∧ Below w.heap.size w w' := ⟨_, rfl⟩
 rw [← hQ]
 have hmf : ∀ (fn : Fn) (first cap : Array Value) (w : World), (Instr.makeFunc fn first cap).run Try.prog w = .ok (.func fn first cap) w := fun _ _ _ _ => rfl
 obtain ⟨wi, hwi⟩ : ∃ wi, wi = (w.alloc (.cells #[.int .i64 a, .int .i64 b, .int .i64 c] 23)).alloc (.cells #[.int .i64 0] 30) := ⟨_, rfl⟩
 have hbi : Below w.heap.size w wi := by rw [hwi]; exact ((Below.refl _ _).alloc (Nat.le_refl _) _).alloc (by simp) _
 have hsz : wi.heap.size = w.heap.size + 2 := by rw [hwi]; simp
 have hec : wi.heap[w.heap.size + 1]? = some (.cells #[.int .i64 0] 30 (0, 0)) := by rw [hwi]; exact str_new _ _ _ _ (by simp)
 have hoc : wi.heap[w.heap.size]? = some (.cells #[.int .i64 a, .int .i64 b, .int .i64 c] 23 (0, 0)) := by rw [hwi]; exact (Below.heap_alloc _ _ _ (by simp)).trans (str_new _ _ _ _ rfl)
 have HNO : Hid (∀ (tmps : Array Value) (y : Int) (w' : World), stepsErr a b c u v ss = y → tmps[8]? = some (.pointer (some ⟨w.heap.size + 1, 0, none⟩)) → Below wi.heap.size wi w' → bodyPostD Try.prog Try.f11 Q (.panic (refusal y)) ⟨tmps, [{ target := .fn (.func 25) #[.pointer (some ⟨w.heap.size + 1, 0, none⟩)], args := #[] }]⟩ w') := Hi (fun tmps y w' he ht hb => by
  refine steps_door_no ht ((hb.block _ (by omega)).trans hec) (fun w1 hb1 => ?_)
  rw [hQ]
  refine ⟨by rw [he], hbi.trans ((hb.mono (by omega)).trans ((hb1.mono (by have := hb.size; omega)).setCell (p := ⟨w.heap.size + 1, 0, none⟩) (by show w.heap.size ≤ w.heap.size + 1; omega) _))⟩)
 have HYES : Hid (∀ (tmps : Array Value) (w' : World), stepsErr a b c u v ss = 0 → tmps[8]? = some (.pointer (some ⟨w.heap.size + 1, 0, none⟩)) → Below wi.heap.size wi w' → bodyPostD Try.prog Try.f11 Q .ret ⟨tmps, [{ target := .fn (.func 25) #[.pointer (some ⟨w.heap.size + 1, 0, none⟩)], args := #[] }]⟩ (w'.setCell ⟨w.heap.size + 1, 0, none⟩ (.int .i64 0))) := Hi (fun tmps w' he ht hb => by
  refine steps_door_yes (x := 0) ht ?_ ?_
  · rw [heap_setCell', if_pos rfl, hb.block _ (by omega), hec]; rfl
  rw [hQ]
  refine ⟨by rw [he], hbi.trans (Below.setCell (Below.setCell (hb.mono (by omega : w.heap.size ≤ wi.heap.size)) (p := ⟨w.heap.size + 1, 0, none⟩) (by show w.heap.size ≤ w.heap.size + 1; omega) _) (p := ⟨w.heap.size + 1, 0, none⟩) (by show w.heap.size ≤ w.heap.size + 1; omega) _)⟩)
 have IA := Hi (fun w => isallowed_any a b c w)
 have IU := Hi (fun w => isword_any u hu w)
 have IV := Hi (fun w => isword_any v hv w)
 have MN := Hi (fun e h w => must_no e h w)
 have MY := Hi (fun w => must_yes w)
 have NN := Hi (fun e w => need_no e w)
 have NY := Hi (fun e w => need_yes e w)
 have HSS := Hi (hss.below hbi)
 have HOB := Lib.hid hob
 have HWI := Hi (And.intro hwi (And.intro hbi hsz))
 have x0 : wi.cell? ⟨w.heap.size, 0, none⟩ = some (.int .i64 a) := by rw [cell_of hoc]; rfl
 have x1 : wi.cell? ⟨w.heap.size, 1, none⟩ = some (.int .i64 b) := by rw [cell_of hoc]; rfl
 have x2 : wi.cell? ⟨w.heap.size, 2, none⟩ = some (.int .i64 c) := by rw [cell_of hoc]; rfl
 have HOC := Hi (And.intro hoc hec)
 unfold oval at *
 unfold maxLen at hsl
 clear hQ hob hu hv hss hbi hsz hec hoc hwi
 by_cases h0 : chk a b c = 0
 case neg =>
  have HF : Hid (stepsErr a b c u v ss = chk a b c) := Hi (by unfold stepsErr; rw [if_pos h0])
  have H0 := Lib.hid h0
  generalize chk a b c = e0 at *
  clear h0
  go_enter_defers Try.func11, Try.ntmps11
  go_upto_region 2 with fail
  rw [← HWI.out.1]
  go_wp2_with (first
   | (go_at_call 27; refine (IA.out _).mono ?_; rintro r w5 ⟨rfl, hb5⟩; have HB5 := Lib.hid hb5; clear hb5)
   | (go_at_call 26; refine (MN.out _ H0.out _).mono ?_; rintro r w6 ⟨rfl, rfl⟩))
  exact HNO.out _ _ _ HF.out rfl HB5.out
 case pos =>
  have HOBB := Hi (HOB.out h0)
  rw [h0] at IA
  by_cases h1 : 2000 < ss.length
  case pos =>
   have HF : Hid (stepsErr a b c u v ss = 4) := Hi (by unfold stepsErr; rw [if_neg (by simp [h0]), if_pos h1])
   have d1 : decide ((ss.length : Int) ≤ 2000) = false := decide_eq_false (by omega)
   have d2 : decide (ss.length ≤ 2000) = false := decide_eq_false (by omega)
   clear h0
   go_enter_defers Try.func11, Try.ntmps11
   go_upto_region 2 with fail
   rw [← HWI.out.1]
   go_wp2_with (first
    | (go_at_call 27; refine (IA.out _).mono ?_; rintro r w5 ⟨rfl, hb5⟩; have HB5 := Lib.hid hb5; clear hb5)
    | (go_at_call 26; refine (MY.out _).mono ?_; rintro r w6 ⟨rfl, rfl⟩)
    | (go_at_call 24; refine (NN.out _ _).mono ?_; rintro r w6 ⟨rfl, rfl⟩))
   exact HNO.out _ _ _ HF.out rfl HB5.out
  case neg =>
   have d1 : decide ((ss.length : Int) ≤ 2000) = true := decide_eq_true (by omega)
   have d2 : decide (ss.length ≤ 2000) = true := decide_eq_true (by omega)
   by_cases h2 : cw u = 0
   case neg =>
    have HF : Hid (stepsErr a b c u v ss = cw u) := Hi (by unfold stepsErr; rw [if_neg (by simp [h0]), if_neg h1, if_pos h2])
    have H2 := Lib.hid h2
    generalize cw u = e0 at *
    clear h0 h1 h2
    go_enter_defers Try.func11, Try.ntmps11
    go_upto_region 2 with fail
    rw [← HWI.out.1]
    go_wp2_with (first
     | (go_at_call 27; refine (IA.out _).mono ?_; rintro r w5 ⟨rfl, hb5⟩; have HB5 := Lib.hid hb5; clear hb5)
     | (go_at_call 28; refine (IU.out _).mono ?_; rintro r w7 ⟨rfl, hb7⟩; have HB7 := Lib.hid hb7; clear hb7)
     | (go_at_call 26; with_reducible refine (MY.out _).mono ?_; rintro r w6 ⟨rfl, rfl⟩)
     | (go_at_call 26; with_reducible refine (MN.out _ H2.out _).mono ?_; rintro r w6 ⟨rfl, rfl⟩)
     | (go_at_call 24; refine (NY.out _ _).mono ?_; rintro r w6 ⟨rfl, rfl⟩))
    exact HNO.out _ _ _ HF.out rfl (HB5.out.trans (HB7.out.mono HB5.out.size))
   case pos =>
    rw [h2] at IU
    by_cases h3 : cw v = 0
    case neg =>
     have HF : Hid (stepsErr a b c u v ss = cw v) := Hi (by unfold stepsErr; rw [if_neg (by simp [h0]), if_neg h1, if_neg (by simp [h2]), if_pos h3])
     have H3 := Lib.hid h3
     generalize cw v = e0 at *
     clear h0 h1 h2 h3
     go_enter_defers Try.func11, Try.ntmps11
     go_upto_region 2 with fail
     rw [← HWI.out.1]
     go_wp2_with (first
      | (go_at_call 27; refine (IA.out _).mono ?_; rintro r w5 ⟨rfl, hb5⟩; have HB5 := Lib.hid hb5; clear hb5)
      | (go_at_call 28; with_reducible refine (IU.out _).mono ?_; rintro r w7 ⟨rfl, hb7⟩; have HB7 := Lib.hid hb7; clear hb7)
      | (go_at_call 28; with_reducible refine (IV.out _).mono ?_; rintro r w8 ⟨rfl, hb8⟩; have HB8 := Lib.hid hb8; clear hb8)
      | (go_at_call 26; with_reducible refine (MY.out _).mono ?_; rintro r w6 ⟨rfl, rfl⟩)
      | (go_at_call 26; with_reducible refine (MN.out _ H3.out _).mono ?_; rintro r w6 ⟨rfl, rfl⟩)
      | (go_at_call 24; refine (NY.out _ _).mono ?_; rintro r w6 ⟨rfl, rfl⟩))
     exact HNO.out _ _ _ HF.out rfl (HB5.out.trans ((HB7.out.trans (HB8.out.mono HB7.out.size)).mono HB5.out.size))
    case pos =>
     rw [h3] at IV
     have HF : Hid (stepsErr a b c u v ss = endErr (runL a b c (unw u) ss) v) := Hi (by unfold stepsErr; rw [if_neg (by simp [h0]), if_neg h1, if_neg (by simp [h2]), if_neg (by simp [h3])])
     have HU := Hi (cw_unw h2)
     have NT := Hi (fun w => newtiling_any a b c w)
     unfold oval at NT
     have HL2 : Hid (ss.length ≤ 2000) := Hi (by omega)
     clear h0 h1 h2 h3
     go_enter_defers Try.func11, Try.ntmps11
     go_upto_region 2 with fail
     rw [← HWI.out.1]
     go_upto_region 6 with (first
      | (go_at_call 27; refine (IA.out _).mono ?_; rintro r w5 ⟨rfl, hb5⟩; have HB5 := Lib.hid hb5; clear hb5)
      | (go_at_call 28; with_reducible refine (IU.out _).mono ?_; rintro r w7 ⟨rfl, hb7⟩; have HB7 := Lib.hid hb7; clear hb7)
      | (go_at_call 28; with_reducible refine (IV.out _).mono ?_; rintro r w8 ⟨rfl, hb8⟩; have HB8 := Lib.hid hb8; clear hb8)
      | (go_at_call 26; with_reducible refine (MY.out _).mono ?_; rintro r w6 ⟨rfl, rfl⟩)
      | (go_at_call 24; refine (NY.out _ _).mono ?_; rintro r w6 ⟨rfl, rfl⟩))
     have HB9 : Hid (Below wi.heap.size wi w8) := Hi (HB5.out.trans ((HB7.out.trans (HB8.out.mono HB7.out.size)).mono HB5.out.size))
     have hoc8 := (HB9.out.block _ (Array.getElem?_eq_some_iff.1 HOC.out.1).1).trans HOC.out.1
     clear x0 x1 x2
     have x0 : w8.cell? ⟨w.heap.size, 0, none⟩ = some (.int .i64 a) := by rw [cell_of hoc8]; rfl
     have x1 : w8.cell? ⟨w.heap.size, 1, none⟩ = some (.int .i64 b) := by rw [cell_of hoc8]; rfl
     have x2 : w8.cell? ⟨w.heap.size, 2, none⟩ = some (.int .i64 c) := by rw [cell_of hoc8]; rfl
     clear hoc8
     go_upto_region 7 with (go_at_call 29; refine (NT.out _).mono ?_; rintro r w9 ⟨p, F, rfl, hhead, hpF, hFw, hpw, hrep, hbl⟩; have HN := Hi (And.intro hhead (And.intro hpw hbl)); clear hhead hpF hFw hpw hrep hbl)
     have HB10 : Hid (Below wi.heap.size wi w9 ∧ w9.heap[p]? = some (.cells #[.int .i64 a, .int .i64 b, .int .i64 c, .pointer (some ⟨F, 0, none⟩)] 93 (0, 0)) ∧ wi.heap.size ≤ p) := Lib.hid ⟨HB9.out.trans (HN.out.2.2.mono HB9.out.size), HN.out.1, Nat.le_trans HB9.out.size HN.out.2.1⟩
     clear x0 x1 x2 HN HB9 HB5 HB7 HB8
     go_wp2_with fail
     go_loopw [1, 32] (fun s t wr => ∃ (k : Nat) (l : List (Fin 3)), k ≤ ss.length ∧ s = .string (wb l) ∧ t = .int .i64 (k : Nat) ∧ l.length ≤ 200 ∧ Hid (runL a b c (unw u) (ss.take k) = some l ∧ Below wi.heap.size wi wr ∧ wr.heap[p]? = some (.cells #[.int .i64 a, .int .i64 b, .int .i64 c, .pointer (some ⟨F, 0, none⟩)] 93 (0, 0)))) (fun _ t _ => ss.length - (intOf t).toNat)
     case atStart => exact ⟨0, unw u, by omega, by rw [← HU.out.1], rfl, by have := HU.out.2; omega, Lib.hid ⟨rfl, HB10.out.1, HB10.out.2.1⟩⟩
     case round =>
      obtain ⟨k, l, hk, rfl, rfl, hl, HK⟩ := hrel
      by_cases hlt : k < ss.length
      · obtain ⟨b0, o0, hps, hr⟩ := (HSS.out.below HK.out.2.1) (by intro h; rw [h] at hlt; simp at hlt)
        obtain ⟨q0, q1, q2, q3⟩ := hr k hlt
        subst hps
        have k1 : (k : Int) < (ss.length : Int) := by omega
        have k2 : (0 : Int) ≤ (k : Int) := by omega
        have HLT := Lib.hid hlt
        have HBAD : Hid (stepL a b c l ss[k] = none → stepsErr a b c u v ss = 20) := Hi (fun h => by rw [HF.out, runL_none HK.out.1 hlt h]; rfl)
        have HNXT : Hid (runL a b c (unw u) (ss.take (k + 1)) = stepL a b c l ss[k]) := Hi (runL_snoc HK.out.1 hlt)
        clear hr
        generalize ss[k] = sk at *
        obtain ⟨kd, at_, si, sj⟩ := sk
        simp only at q0 q1 q2 q3
        have hbx := (Below.refl wr.heap.size wr).alloc (Nat.le_refl _) (.cells #[.int .i64 kd, .int .i64 at_, .int .i64 si, .int .i64 sj] 43)
        have hcx := str_new wr #[.int .i64 kd, .int .i64 at_, .int .i64 si, .int .i64 sj] 43 _ rfl
        have HBX := Hi (And.intro (HK.out.2.1.trans (hbx.mono HK.out.2.1.size)) (And.intro hcx ((hbx.block _ (Array.getElem?_eq_some_iff.1 HK.out.2.2).1).trans HK.out.2.2)))
        have ISI := Hi (fun w => isletter_any si w)
        clear hbx hcx hlt
        by_cases hok : StepD.ok ⟨kd, at_, si, sj⟩
        case neg =>
         have HE : Hid (stepsErr a b c u v ss = 20) := Hi (HBAD.out (by unfold stepL; rw [if_neg hok]))
         unfold StepD.ok isMir at hok
         simp only at hok
         by_cases g1 : 1 ≤ kd
         · have e1 : decide (1 ≤ kd) = true := decide_eq_true g1
           by_cases g2 : kd ≤ 3
           · have e2 : decide (kd ≤ 3) = true := decide_eq_true g2
             by_cases g3 : 0 ≤ si ∧ si ≤ 2
             · rw [decide_eq_true g3] at ISI
               have g4 : ¬ sj = 0 := fun h => hok ⟨g1, g2, g3, .inl h⟩
               have g5 : ¬ kd = 3 := fun h => hok ⟨g1, g2, g3, .inr h⟩
               have e4 : (sj == 0) = false := by simpa using g4
               have e5 : (kd == 3) = false := by simpa using g5
               clear hok g3
               go_wp2_with (first | (go_at_call 30; refine (ISI.out _).mono ?_; rintro r w6 ⟨rfl, h6⟩; subst w6) | (go_at_call 24; refine (NN.out _ _).mono ?_; rintro r w6 ⟨rfl, rfl⟩))
               exact HNO.out _ _ _ HE.out rfl HBX.out.1
             · rw [decide_eq_false g3] at ISI
               clear hok g3
               go_wp2_with (first | (go_at_call 30; refine (ISI.out _).mono ?_; rintro r w6 ⟨rfl, h6⟩; subst w6) | (go_at_call 24; refine (NN.out _ _).mono ?_; rintro r w6 ⟨rfl, rfl⟩))
               exact HNO.out _ _ _ HE.out rfl HBX.out.1
           · have e2 : decide (kd ≤ 3) = false := decide_eq_false g2
             clear hok
             go_wp2_with (go_at_call 24; refine (NN.out _ _).mono ?_; rintro r w6 ⟨rfl, rfl⟩)
             exact HNO.out _ _ _ HE.out rfl HBX.out.1
         · have e1 : decide (1 ≤ kd) = false := decide_eq_false g1
           clear hok
           go_wp2_with (go_at_call 24; refine (NN.out _ _).mono ?_; rintro r w6 ⟨rfl, rfl⟩)
           exact HNO.out _ _ _ HE.out rfl HBX.out.1
        case pos =>
         obtain ⟨g1, g2, g3, g4⟩ := id hok
         simp only at g1 g2 g3 g4
         obtain ⟨fi, hfi⟩ : ∃ fi : Fin 3, si = (fi.val : Int) := ⟨mf si, mf_of g3⟩
         subst hfi
         have hmf2 : mf (fi.val : Int) = fi := by
          have h := mf_of g3
          exact Fin.ext (by omega)
         unfold isMir at g3
         rw [decide_eq_true g3] at ISI
         have e1 : decide (1 ≤ kd) = true := decide_eq_true g1
         have e2 : decide (kd ≤ 3) = true := decide_eq_true g2
         have hkd : kd = 1 ∨ kd = 2 ∨ kd = 3 := by omega
         rcases hkd with rfl | rfl | rfl
         · have hsj : sj = 0 := by omega
           subst hsj
           have hres : stepL a b c l ⟨1, at_, (fi.val : Int), 0⟩ = (repl l at_ (rowl fi fi 2) []).filter fun l' => decide (l'.length ≤ 200) := (by unfold stepL; rw [if_pos hok, hmf2]; simp)
           rw [hres] at HBAD HNXT
           have RC0 : ∀ wx, wx.heap[p]? = some (.cells #[.int .i64 a, .int .i64 b, .int .i64 c, .pointer (some ⟨F, 0, none⟩)] 93 (0, 0)) → Calls Try.prog 55 #[.pointer (some ⟨p, 0, none⟩), .string (wb l), sval 1 at_ fi.val 0] wx fun e w' => e = .returned (.tuple #[.string (wb ((repl l at_ (rowl fi fi 2) []).getD [])), .bool (repl l at_ (rowl fi fi 2) []).isSome]) ∧ Below wx.heap.size wx w' := fun wx hb => makers1_any _ l (by omega) 1 at_ fi 0 wx
           unfold sval at RC0
           obtain ⟨re, hre⟩ : ∃ re, repl l at_ (rowl fi fi 2) [] = re := ⟨_, rfl⟩
           rw [hre] at RC0 HBAD HNXT
           clear hres hre hok hmf2
           go_upto_region 11 with (first | (go_at_call 30; refine (ISI.out _).mono ?_; rintro r w6 ⟨rfl, h6⟩; subst w6) | (go_at_call 24; refine (NY.out _ _).mono ?_; rintro r w6 ⟨rfl, rfl⟩))
           generalize wr.alloc (.cells #[.int .i64 1, .int .i64 at_, .int .i64 (fi.val : Int), .int .i64 0] 43) = wz at *
           have HRC := Hi (fun wx (hb : Below wz.heap.size wz wx) => RC0 wx ((hb.block _ (Array.getElem?_eq_some_iff.1 HBX.out.2.2).1).trans HBX.out.2.2))
           clear RC0
           generalize wr.heap.size = b1 at *
           obtain ⟨so, hso⟩ : ∃ so, wb (re.getD []) = so := ⟨_, rfl⟩
           obtain ⟨bb, hbb⟩ : ∃ bb, re.isSome = bb := ⟨_, rfl⟩
           rw [hso, hbb] at HRC
           refine steps_r11_1 (s := so) (bb := bb) (p := p) (l := l) (at_ := at_) HBX.out.2.1 HRC.out (fun w6 n60 n61 n62 n63 n64 n65 n66 n67 n68 n69 n70 n71 hb6 => ?_)
           have HB11 : Hid (Below wi.heap.size wi w6) := Hi (HBX.out.1.trans (hb6.mono HBX.out.1.size))
           have HP11 := Hi ((hb6.block _ (Array.getElem?_eq_some_iff.1 HBX.out.2.2).1).trans HBX.out.2.2)
           clear hb6 HRC
           cases re with
           | none =>
            have HE : Hid (stepsErr a b c u v ss = 20) := Hi (HBAD.out rfl)
            simp only [Option.isSome_none] at hbb
            subst hbb
            clear hso
            go_upto_region 12 with fail
            refine steps_r12_none (fun n72 n73 n74 n75 n76 n77 n78 => ?_)
            exact HNO.out _ _ _ HE.out rfl HB11.out
           | some l2 =>
            simp only [Option.getD_some, Option.isSome_some] at hbb hso
            subst hbb
            by_cases hl2 : l2.length ≤ 200
            · have HN2 : Hid (runL a b c (unw u) (ss.take (k + 1)) = some l2) := Hi (by rw [HNXT.out]; simp [hl2])
              have hso2 : so.size ≤ 200 := by rw [← hso, wb_size]; exact hl2
              have HSO := Lib.hid hso
              clear hso
              go_upto_region 12 with fail
              refine steps_r12_yes hso2 (fun n72 n73 n74 n75 n76 n77 n78 => ?_)
              clear hso2
              go_wp2_with fail
              go_roundw
              case rel => exact ⟨k + 1, l2, by have := HLT.out; omega, by rw [HSO.out], by go_num, hl2, Lib.hid ⟨HN2.out, HB11.out, HP11.out⟩⟩
              case measure =>
               have := HLT.out
               simp [intOf]; omega
            · have HE : Hid (stepsErr a b c u v ss = 20) := Hi (HBAD.out (by simp; omega))
              have hso2 : ¬ so.size ≤ 200 := by rw [← hso, wb_size]; exact hl2
              clear hso
              go_upto_region 12 with fail
              refine steps_r12_long hso2 (fun n72 n73 n74 n75 n76 n77 n78 => ?_)
              exact HNO.out _ _ _ HE.out rfl HB11.out
         · have hsj : sj = 0 := by omega
           subst hsj
           have hres : stepL a b c l ⟨2, at_, (fi.val : Int), 0⟩ = (repl l at_ [] (rowl fi fi 2)).filter fun l' => decide (l'.length ≤ 200) := (by unfold stepL; rw [if_pos hok, hmf2]; simp)
           rw [hres] at HBAD HNXT
           have RC0 : ∀ wx, wx.heap[p]? = some (.cells #[.int .i64 a, .int .i64 b, .int .i64 c, .pointer (some ⟨F, 0, none⟩)] 93 (0, 0)) → Calls Try.prog 58 #[.pointer (some ⟨p, 0, none⟩), .string (wb l), sval 2 at_ fi.val 0] wx fun e w' => e = .returned (.tuple #[.string (wb ((repl l at_ [] (rowl fi fi 2)).getD [])), .bool (repl l at_ [] (rowl fi fi 2)).isSome]) ∧ Below wx.heap.size wx w' := fun wx hb => makers2_any _ l (by omega) 2 at_ fi 0 wx
           unfold sval at RC0
           obtain ⟨re, hre⟩ : ∃ re, repl l at_ [] (rowl fi fi 2) = re := ⟨_, rfl⟩
           rw [hre] at RC0 HBAD HNXT
           clear hres hre hok hmf2
           go_upto_region 11 with (first | (go_at_call 30; refine (ISI.out _).mono ?_; rintro r w6 ⟨rfl, h6⟩; subst w6) | (go_at_call 24; refine (NY.out _ _).mono ?_; rintro r w6 ⟨rfl, rfl⟩))
           generalize wr.alloc (.cells #[.int .i64 2, .int .i64 at_, .int .i64 (fi.val : Int), .int .i64 0] 43) = wz at *
           have HRC := Hi (fun wx (hb : Below wz.heap.size wz wx) => RC0 wx ((hb.block _ (Array.getElem?_eq_some_iff.1 HBX.out.2.2).1).trans HBX.out.2.2))
           clear RC0
           generalize wr.heap.size = b1 at *
           obtain ⟨so, hso⟩ : ∃ so, wb (re.getD []) = so := ⟨_, rfl⟩
           obtain ⟨bb, hbb⟩ : ∃ bb, re.isSome = bb := ⟨_, rfl⟩
           rw [hso, hbb] at HRC
           refine steps_r11_2 (s := so) (bb := bb) (p := p) (l := l) (at_ := at_) HBX.out.2.1 HRC.out (fun w6 n60 n61 n62 n63 n64 n65 n66 n67 n68 n69 n70 n71 hb6 => ?_)
           have HB11 : Hid (Below wi.heap.size wi w6) := Hi (HBX.out.1.trans (hb6.mono HBX.out.1.size))
           have HP11 := Hi ((hb6.block _ (Array.getElem?_eq_some_iff.1 HBX.out.2.2).1).trans HBX.out.2.2)
           clear hb6 HRC
           cases re with
           | none =>
            have HE : Hid (stepsErr a b c u v ss = 20) := Hi (HBAD.out rfl)
            simp only [Option.isSome_none] at hbb
            subst hbb
            clear hso
            go_upto_region 12 with fail
            refine steps_r12_none (fun n72 n73 n74 n75 n76 n77 n78 => ?_)
            exact HNO.out _ _ _ HE.out rfl HB11.out
           | some l2 =>
            simp only [Option.getD_some, Option.isSome_some] at hbb hso
            subst hbb
            by_cases hl2 : l2.length ≤ 200
            · have HN2 : Hid (runL a b c (unw u) (ss.take (k + 1)) = some l2) := Hi (by rw [HNXT.out]; simp [hl2])
              have hso2 : so.size ≤ 200 := by rw [← hso, wb_size]; exact hl2
              have HSO := Lib.hid hso
              clear hso
              go_upto_region 12 with fail
              refine steps_r12_yes hso2 (fun n72 n73 n74 n75 n76 n77 n78 => ?_)
              clear hso2
              go_wp2_with fail
              go_roundw
              case rel => exact ⟨k + 1, l2, by have := HLT.out; omega, by rw [HSO.out], by go_num, hl2, Lib.hid ⟨HN2.out, HB11.out, HP11.out⟩⟩
              case measure =>
               have := HLT.out
               simp [intOf]; omega
            · have HE : Hid (stepsErr a b c u v ss = 20) := Hi (HBAD.out (by simp; omega))
              have hso2 : ¬ so.size ≤ 200 := by rw [← hso, wb_size]; exact hl2
              clear hso
              go_upto_region 12 with fail
              refine steps_r12_long hso2 (fun n72 n73 n74 n75 n76 n77 n78 => ?_)
              exact HNO.out _ _ _ HE.out rfl HB11.out
         · by_cases hsj : sj = 0
           · subst hsj
             have hres : stepL a b c l ⟨3, at_, (fi.val : Int), 0⟩ = (turnR a b c l at_ fi 0).filter fun l' => decide (l'.length ≤ 200) := (by unfold stepL; rw [if_pos hok, hmf2]; simp)
             rw [hres] at HBAD HNXT
             have RC0 : ∀ wx, wx.heap[p]? = some (.cells #[.int .i64 a, .int .i64 b, .int .i64 c, .pointer (some ⟨F, 0, none⟩)] 93 (0, 0)) → Calls Try.prog 59 #[.pointer (some ⟨p, 0, none⟩), .string (wb l), sval 3 at_ fi.val 0] wx fun e w' => e = .returned (.tuple #[.string (wb ((turnR a b c l at_ fi 0).getD [])), .bool (turnR a b c l at_ fi 0).isSome]) ∧ Below wx.heap.size wx w' := fun wx hb => makers3_any a b c p F l (by omega) 3 at_ fi 0 wx hb (ordz_bd HOBB.out _ _)
             unfold sval at RC0
             obtain ⟨re, hre⟩ : ∃ re, turnR a b c l at_ fi 0 = re := ⟨_, rfl⟩
             rw [hre] at RC0 HBAD HNXT
             clear hres hre hok hmf2
             go_upto_region 11 with (first | (go_at_call 30; refine (ISI.out _).mono ?_; rintro r w6 ⟨rfl, h6⟩; subst w6) | (go_at_call 24; refine (NY.out _ _).mono ?_; rintro r w6 ⟨rfl, rfl⟩))
             generalize wr.alloc (.cells #[.int .i64 3, .int .i64 at_, .int .i64 (fi.val : Int), .int .i64 0] 43) = wz at *
             have HRC := Hi (fun wx (hb : Below wz.heap.size wz wx) => RC0 wx ((hb.block _ (Array.getElem?_eq_some_iff.1 HBX.out.2.2).1).trans HBX.out.2.2))
             clear RC0
             generalize wr.heap.size = b1 at *
             obtain ⟨so, hso⟩ : ∃ so, wb (re.getD []) = so := ⟨_, rfl⟩
             obtain ⟨bb, hbb⟩ : ∃ bb, re.isSome = bb := ⟨_, rfl⟩
             rw [hso, hbb] at HRC
             refine steps_r11_3 (s := so) (bb := bb) (p := p) (l := l) (at_ := at_) HBX.out.2.1 HRC.out (fun w6 n60 n61 n62 n63 n64 n65 n66 n67 n68 n69 n70 n71 hb6 => ?_)
             have HB11 : Hid (Below wi.heap.size wi w6) := Hi (HBX.out.1.trans (hb6.mono HBX.out.1.size))
             have HP11 := Hi ((hb6.block _ (Array.getElem?_eq_some_iff.1 HBX.out.2.2).1).trans HBX.out.2.2)
             clear hb6 HRC
             cases re with
             | none =>
              have HE : Hid (stepsErr a b c u v ss = 20) := Hi (HBAD.out rfl)
              simp only [Option.isSome_none] at hbb
              subst hbb
              clear hso
              go_upto_region 12 with fail
              refine steps_r12_none (fun n72 n73 n74 n75 n76 n77 n78 => ?_)
              exact HNO.out _ _ _ HE.out rfl HB11.out
             | some l2 =>
              simp only [Option.getD_some, Option.isSome_some] at hbb hso
              subst hbb
              by_cases hl2 : l2.length ≤ 200
              · have HN2 : Hid (runL a b c (unw u) (ss.take (k + 1)) = some l2) := Hi (by rw [HNXT.out]; simp [hl2])
                have hso2 : so.size ≤ 200 := by rw [← hso, wb_size]; exact hl2
                have HSO := Lib.hid hso
                clear hso
                go_upto_region 12 with fail
                refine steps_r12_yes hso2 (fun n72 n73 n74 n75 n76 n77 n78 => ?_)
                clear hso2
                go_wp2_with fail
                go_roundw
                case rel => exact ⟨k + 1, l2, by have := HLT.out; omega, by rw [HSO.out], by go_num, hl2, Lib.hid ⟨HN2.out, HB11.out, HP11.out⟩⟩
                case measure =>
                 have := HLT.out
                 simp [intOf]; omega
              · have HE : Hid (stepsErr a b c u v ss = 20) := Hi (HBAD.out (by simp; omega))
                have hso2 : ¬ so.size ≤ 200 := by rw [← hso, wb_size]; exact hl2
                clear hso
                go_upto_region 12 with fail
                refine steps_r12_long hso2 (fun n72 n73 n74 n75 n76 n77 n78 => ?_)
                exact HNO.out _ _ _ HE.out rfl HB11.out
           · have e4 : (sj == 0) = false := by simpa using hsj
             clear hsj g4
             have hres : stepL a b c l ⟨3, at_, (fi.val : Int), sj⟩ = (turnR a b c l at_ fi sj).filter fun l' => decide (l'.length ≤ 200) := (by unfold stepL; rw [if_pos hok, hmf2]; simp)
             rw [hres] at HBAD HNXT
             have RC0 : ∀ wx, wx.heap[p]? = some (.cells #[.int .i64 a, .int .i64 b, .int .i64 c, .pointer (some ⟨F, 0, none⟩)] 93 (0, 0)) → Calls Try.prog 59 #[.pointer (some ⟨p, 0, none⟩), .string (wb l), sval 3 at_ fi.val sj] wx fun e w' => e = .returned (.tuple #[.string (wb ((turnR a b c l at_ fi sj).getD [])), .bool (turnR a b c l at_ fi sj).isSome]) ∧ Below wx.heap.size wx w' := fun wx hb => makers3_any a b c p F l (by omega) 3 at_ fi sj wx hb (ordz_bd HOBB.out _ _)
             unfold sval at RC0
             obtain ⟨re, hre⟩ : ∃ re, turnR a b c l at_ fi sj = re := ⟨_, rfl⟩
             rw [hre] at RC0 HBAD HNXT
             clear hres hre hok hmf2
             go_upto_region 11 with (first | (go_at_call 30; refine (ISI.out _).mono ?_; rintro r w6 ⟨rfl, h6⟩; subst w6) | (go_at_call 24; refine (NY.out _ _).mono ?_; rintro r w6 ⟨rfl, rfl⟩))
             generalize wr.alloc (.cells #[.int .i64 3, .int .i64 at_, .int .i64 (fi.val : Int), .int .i64 sj] 43) = wz at *
             have HRC := Hi (fun wx (hb : Below wz.heap.size wz wx) => RC0 wx ((hb.block _ (Array.getElem?_eq_some_iff.1 HBX.out.2.2).1).trans HBX.out.2.2))
             clear RC0
             generalize wr.heap.size = b1 at *
             obtain ⟨so, hso⟩ : ∃ so, wb (re.getD []) = so := ⟨_, rfl⟩
             obtain ⟨bb, hbb⟩ : ∃ bb, re.isSome = bb := ⟨_, rfl⟩
             rw [hso, hbb] at HRC
             refine steps_r11_3 (s := so) (bb := bb) (p := p) (l := l) (at_ := at_) HBX.out.2.1 HRC.out (fun w6 n60 n61 n62 n63 n64 n65 n66 n67 n68 n69 n70 n71 hb6 => ?_)
             have HB11 : Hid (Below wi.heap.size wi w6) := Hi (HBX.out.1.trans (hb6.mono HBX.out.1.size))
             have HP11 := Hi ((hb6.block _ (Array.getElem?_eq_some_iff.1 HBX.out.2.2).1).trans HBX.out.2.2)
             clear hb6 HRC
             cases re with
             | none =>
              have HE : Hid (stepsErr a b c u v ss = 20) := Hi (HBAD.out rfl)
              simp only [Option.isSome_none] at hbb
              subst hbb
              clear hso
              go_upto_region 12 with fail
              refine steps_r12_none (fun n72 n73 n74 n75 n76 n77 n78 => ?_)
              exact HNO.out _ _ _ HE.out rfl HB11.out
             | some l2 =>
              simp only [Option.getD_some, Option.isSome_some] at hbb hso
              subst hbb
              by_cases hl2 : l2.length ≤ 200
              · have HN2 : Hid (runL a b c (unw u) (ss.take (k + 1)) = some l2) := Hi (by rw [HNXT.out]; simp [hl2])
                have hso2 : so.size ≤ 200 := by rw [← hso, wb_size]; exact hl2
                have HSO := Lib.hid hso
                clear hso
                go_upto_region 12 with fail
                refine steps_r12_yes hso2 (fun n72 n73 n74 n75 n76 n77 n78 => ?_)
                clear hso2
                go_wp2_with fail
                go_roundw
                case rel => exact ⟨k + 1, l2, by have := HLT.out; omega, by rw [HSO.out], by go_num, hl2, Lib.hid ⟨HN2.out, HB11.out, HP11.out⟩⟩
                case measure =>
                 have := HLT.out
                 simp [intOf]; omega
              · have HE : Hid (stepsErr a b c u v ss = 20) := Hi (HBAD.out (by simp; omega))
                have hso2 : ¬ so.size ≤ 200 := by rw [← hso, wb_size]; exact hl2
                clear hso
                go_upto_region 12 with fail
                refine steps_r12_long hso2 (fun n72 n73 n74 n75 n76 n77 n78 => ?_)
                exact HNO.out _ _ _ HE.out rfl HB11.out
      · have hke : k = ss.length := by omega
        subst hke
        have k1 : ¬ (ss.length : Int) < (ss.length : Int) := by omega
        have HR : Hid (runL a b c (unw u) ss = some l) := Hi (by have := HK.out.1; rw [List.take_length] at this; exact this)
        have hec := (HK.out.2.1.block _ (Array.getElem?_eq_some_iff.1 HOC.out.2).1).trans HOC.out.2
        have z1 : wr.cell? ⟨w.heap.size + 1, 0, none⟩ = some (.int .i64 0) := by rw [cell_of hec]; rfl
        have z2 := free_of hec 0
        clear hec
        by_cases he : wb l = v
        · have HE : Hid (stepsErr a b c u v ss = 0) := Hi (by rw [HF.out, HR.out]; exact if_pos he)
          have e1 : ((wb l).toList == v.toList) = true := by rw [he]; simp
          clear he
          go_wp2_with (go_at_call 24; refine (NY.out _ _).mono ?_; rintro r w6 ⟨rfl, rfl⟩)
          exact HYES.out _ _ HE.out rfl HK.out.2.1
        · have HE : Hid (stepsErr a b c u v ss = 20) := Hi (by rw [HF.out, HR.out]; exact if_neg he)
          have e1 : ((wb l).toList == v.toList) = false := by
           rw [beq_eq_false_iff_ne]
           intro h
           apply he
           refine ByteArray.ext (Array.toList_inj.1 ?_)
           rw [← Lib.toList_data, ← Lib.toList_data]; exact h
          clear he
          go_wp2_with (go_at_call 24; refine (NN.out _ _).mono ?_; rintro r w6 ⟨rfl, rfl⟩)
          exact HNO.out _ _ _ HE.out rfl HK.out.2.1
end Go.Proofs.Ytkndmibmmoikbaa
namespace Go.Proofs.Ytkndmibmmoikbaa
open Go.RowKit
open Cox (Tl)
theorem known_any (w : World) : Calls Try.prog 15 #[] w fun e w' => e = .returned (oval 3 7 2) ∧ Below w.heap.size w w' := by
 have hb := (Below.refl w.heap.size w).alloc (Nat.le_refl _) (.cells #[.int .i64 3, .int .i64 7, .int .i64 2] 23)
 have hc := str_new w #[.int .i64 3, .int .i64 7, .int .i64 2] 23 _ rfl
 have c0 : (w.alloc (.cells #[.int .i64 3, .int .i64 7, .int .i64 2] 23)).cell? ⟨w.heap.size, 0, none⟩ = some (.int .i64 3) := by rw [cell_of hc]; rfl
 have c1 : (w.alloc (.cells #[.int .i64 3, .int .i64 7, .int .i64 2] 23)).cell? ⟨w.heap.size, 1, none⟩ = some (.int .i64 7) := by rw [cell_of hc]; rfl
 have c2 : (w.alloc (.cells #[.int .i64 3, .int .i64 7, .int .i64 2] 23)).cell? ⟨w.heap.size, 2, none⟩ = some (.int .i64 2) := by rw [cell_of hc]; rfl
 unfold oval
 go_enter Try.func15, Try.ntmps15
 go_wp2_with fail
 generalize w.alloc (.cells #[.int .i64 3, .int .i64 7, .int .i64 2] 23) = w1 at *
 simp [bodyPost, results, Try.results15, go_sem, c0, c1, c2]
 exact hb
theorem info41 : Option.map (fun i => (i.zero, i.size, i.bytes)) (Try.prog.info? 41) = some (some (.agg #[.string ⟨#[]⟩, .int .i64 0, .string ⟨#[]⟩, .int .i64 0]), 4, 48) := by kernel_rfl
def aPairs : List PairD := [(⟨⟨#[]⟩, 0⟩, ⟨⟨#[]⟩, 0⟩), (⟨⟨#[]⟩, 1⟩, ⟨⟨#[]⟩, 1⟩), (⟨⟨#[]⟩, 2⟩, ⟨⟨#[]⟩, 2⟩)]
def aCys (g : Nat) : List CycA := [⟨some ⟨g, 0, none⟩, 1, ⟨[⟨#[]⟩], 0, 1, 3, true⟩⟩, ⟨some ⟨g, 0, none⟩, 1, ⟨[⟨#[]⟩], 0, 2, 2, true⟩⟩, ⟨some ⟨g, 0, none⟩, 1, ⟨[⟨#[]⟩], 1, 2, 7, true⟩⟩]
def prow4 : List PairD → List Value
 | [] => []
 | p :: l => .string p.1.tile :: .int .i64 p.1.mir :: .string p.2.tile :: .int .i64 p.2.mir :: prow4 l
theorem pairs_of_row {w : World} {B cv : Nat} {pv : Option Addr} (h : w.ownsRow B 41 4 (.slice pv 3 cv) 3 (prow4 aPairs)) : PairsAt w pv aPairs := by
 have hl : (prow4 aPairs).length = 12 := rfl
 obtain ⟨g, cap, hgv, _⟩ := owns_cell h (i := 0) (by rw [hl]; decide)
 have hpv : pv = some ⟨g, 0, none⟩ := by simp at hgv; exact hgv.1
 have hc : ∀ i, i < 12 → w.cell? ⟨g, i, none⟩ = (prow4 aPairs)[i]? := fun i hi => by
  obtain ⟨g', cap', hgv', h2, _⟩ := owns_cell h (i := i) (by rw [hl]; exact hi)
  have hgg : g' = g := by
   have h := congrArg Value.ownBlock (hgv'.symm.trans hgv)
   simpa [Value.ownBlock] using h
  rw [hgg] at h2
  exact h2
 intro _
 refine ⟨g, 0, hpv, fun i hi => ?_⟩
 have hi3 : i < 3 := hi
 rcases i with _ | _ | _ | i
 · exact ⟨hc 0 (by omega), hc 1 (by omega), hc 2 (by omega), hc 3 (by omega)⟩
 · exact ⟨hc 4 (by omega), hc 5 (by omega), hc 6 (by omega), hc 7 (by omega)⟩
 · exact ⟨hc 8 (by omega), hc 9 (by omega), hc 10 (by omega), hc 11 (by omega)⟩
 · omega
def cyc15 (g : Nat) : Array Value := #[.slice (some ⟨g, 0, none⟩) 1 1, .int .i64 0, .int .i64 1, .int .i64 3, .bool true, .slice (some ⟨g, 0, none⟩) 1 1, .int .i64 0, .int .i64 2, .int .i64 2, .bool true, .slice (some ⟨g, 0, none⟩) 1 1, .int .i64 1, .int .i64 2, .int .i64 7, .bool true]
theorem cyc_row (w : World) : CycsAt ((w.alloc (.cells #[.string ⟨#[]⟩] 9)).alloc (.cells (cyc15 w.heap.size) 48)) (some ⟨w.heap.size + 1, 0, none⟩) (aCys w.heap.size) ∧ Below w.heap.size w ((w.alloc (.cells #[.string ⟨#[]⟩] 9)).alloc (.cells (cyc15 w.heap.size) 48)) := by
 have hb1 := (Below.refl w.heap.size w).alloc (Nat.le_refl _) (.cells #[.string ⟨#[]⟩] 9)
 have hb2 := hb1.alloc (by simp) (.cells (cyc15 w.heap.size) 48)
 refine ⟨?_, hb2⟩
 have h1 : ((w.alloc (.cells #[.string ⟨#[]⟩] 9)).alloc (.cells (cyc15 w.heap.size) 48)).heap[w.heap.size + 1]? = some (.cells (cyc15 w.heap.size) 48 (0, 0)) := str_new _ _ _ _ (by simp)
 have h2 : ((w.alloc (.cells #[.string ⟨#[]⟩] 9)).alloc (.cells (cyc15 w.heap.size) 48)).heap[w.heap.size]? = some (.cells #[.string ⟨#[]⟩] 9 (0, 0)) := (Below.heap_alloc _ _ _ (by simp)).trans (str_new _ _ _ _ rfl)
 generalize (w.alloc (.cells #[.string ⟨#[]⟩] 9)).alloc (.cells (cyc15 w.heap.size) 48) = w2 at *
 have hs : StrsAt w2 (some ⟨w.heap.size, 0, none⟩) [⟨#[]⟩] := fun _ => ⟨_, 0, rfl, fun i hi => by
  have : i = 0 := by simpa using hi
  subst this
  rw [cell_of h2]; rfl⟩
 intro _
 refine ⟨_, 0, rfl, fun i hi => ?_⟩
 have hi3 : i < 3 := hi
 rcases i with _ | _ | _ | i
 · exact ⟨by rw [cell_of h1]; rfl, by rw [cell_of h1]; rfl, by rw [cell_of h1]; rfl, by rw [cell_of h1]; rfl, by rw [cell_of h1]; rfl, hs⟩
 · exact ⟨by rw [cell_of h1]; rfl, by rw [cell_of h1]; rfl, by rw [cell_of h1]; rfl, by rw [cell_of h1]; rfl, by rw [cell_of h1]; rfl, hs⟩
 · exact ⟨by rw [cell_of h1]; rfl, by rw [cell_of h1]; rfl, by rw [cell_of h1]; rfl, by rw [cell_of h1]; rfl, by rw [cell_of h1]; rfl, hs⟩
 · omega
theorem alone_any (w : World) : Calls Try.prog 16 #[] w fun e w' => ∃ g0 cp pc g, e = .returned (.tuple #[.slice (some ⟨g0, 0, none⟩) 3 cp, .slice (some ⟨pc, 0, none⟩) 3 3]) ∧ PairsAt w' (some ⟨g0, 0, none⟩) aPairs ∧ CycsAt w' (some ⟨pc, 0, none⟩) (aCys g) ∧ Below w.heap.size w w' := by
 obtain ⟨i41, hi, hz0, hz1, hz2⟩ := info_parts info41
 go_enter Try.func16, Try.ntmps16
 go_wp2_with fail
 go_loopw [2, 3] (fun s2 s3 wr => ∃ (k : Nat), k ≤ 3 ∧ s3 = .int .i64 (k : Nat) ∧ wr.ownsRow w.heap.size 41 4 s2 k (prow4 (aPairs.take k)) ∧ Hid (Below w.heap.size w wr)) (fun _ s3 _ => 3 - (intOf s3).toNat)
 case atStart => exact ⟨0, by omega, rfl, ⟨rfl, .inl ⟨rfl, rfl⟩⟩, Hi (Below.refl _ _)⟩
 case round =>
  obtain ⟨k, hk, rfl, hown, HB⟩ := hrel
  obtain ⟨pv, cv, hv⟩ := owns_form hown
  subst hv
  by_cases hlt : k < 3
  · have k1 : (k : Int) < 3 := by omega
    have HNX : Hid (prow4 (aPairs.take (k + 1)) = prow4 (aPairs.take k) ++ [.string ⟨#[]⟩, .int .i64 (k : Nat), .string ⟨#[]⟩, .int .i64 (k : Nat)]) := Hi (by
     rcases k with _ | _ | _ | k
     · rfl
     · rfl
     · rfl
     · omega)
    have hb1 : Below w.heap.size w ((wr.alloc (.cells #[.string ⟨#[]⟩, .int .i64 (k : Nat)] 40)).alloc (.cells #[.string ⟨#[]⟩, .int .i64 (k : Nat), .string ⟨#[]⟩, .int .i64 (k : Nat)] 41)) := HB.out.trans (((Below.refl _ _).alloc HB.out.size _).alloc (by have := HB.out.size; simp; omega) _)
    have HOW := Hi (owns_keep (w' := (wr.alloc (.cells #[.string ⟨#[]⟩, .int .i64 (k : Nat)] 40)).alloc (.cells #[.string ⟨#[]⟩, .int .i64 (k : Nat), .string ⟨#[]⟩, .int .i64 (k : Nat)] 41)) hown (fun q hq => (Below.heap_alloc _ _ _ (by have := (owns_lt hown hq).1; simp; omega)).trans (Below.heap_alloc _ _ _ (owns_lt hown hq).1)))
    have HHS : Hid (w.heap.size ≤ ((wr.alloc (.cells #[.string ⟨#[]⟩, .int .i64 (k : Nat)] 40)).alloc (.cells #[.string ⟨#[]⟩, .int .i64 (k : Nat), .string ⟨#[]⟩, .int .i64 (k : Nat)] 41)).heap.size) := Hi (by have := HB.out.size; simp; omega)
    have m1 : k + 1 ≤ maxLen := by unfold maxLen; omega
    have m2 : (k + 1) * 48 ≤ 140737488355328 := by omega
    have HLO := Hi (fun q hq => (owns_lt hown (g := q) hq).2)
    have HB1 := Lib.hid hb1
    have HNB := Hi (World.news_of_block (str_new (wr.alloc (.cells #[.string ⟨#[]⟩, .int .i64 (k : Nat)] 40)) #[.string ⟨#[]⟩, .int .i64 (k : Nat), .string ⟨#[]⟩, .int .i64 (k : Nat)] 41 (wr.heap.size + 1) (by simp)))
    have HOC : Hid (∀ u ∈ [Value.string ⟨#[]⟩, .int .i64 (k : Nat), .string ⟨#[]⟩, .int .i64 (k : Nat)], u.oneCell' = true) := Hi (by intro u hu; simp at hu; rcases hu with rfl | rfl | rfl | rfl <;> rfl)
    clear hown hb1
    go_wp2_with (at_builtin; refine wpList_append_lies _ rfl (.tmp 12) (.tmp 16) 25 rfl w.heap.size 41 i41 _ 4 48 Try.underlying25 hi hz0 hz1 hz2 rfl (by decide) (.slice pv k cv) k (prow4 (aPairs.take k)) rfl HOW.out ⟨wr.heap.size + 1, 0, none⟩ 1 1 [.string ⟨#[]⟩, .int .i64 (k : Nat), .string ⟨#[]⟩, .int .i64 (k : Nat)] rfl rfl HNB.out HOC.out (by decide) m1 m2 HHS.out _ rfl ?_; intro g9 cap9 w9 hown9 hgr9 hat9 hlt9; have HF := Hi (And.intro hown9 (HB1.out.grown hgr9 HHS.out HLO.out)); clear hown9 hgr9 hat9 hlt9)
    go_roundw
    case rel => exact ⟨k + 1, by omega, by go_num, by rw [HNX.out]; exact HF.out.1, Lib.hid HF.out.2⟩
    case measure => simp [intOf]; omega
  · have hke : k = 3 := by omega
    subst hke
    have HP : Hid (∀ w', Below wr.heap.size wr w' → PairsAt w' pv aPairs) := Hi (fun w' hb => (pairs_of_row hown).below hb)
    obtain ⟨g0, cap0, hgv, _⟩ := owns_cell hown (i := 0) (by decide)
    have hpv : pv = some ⟨g0, 0, none⟩ := by simp at hgv; exact hgv.1
    subst hpv
    clear hgv
    obtain ⟨h1, h2⟩ := cyc_row wr
    have H1 := Hi (And.intro h1 h2)
    clear hown h1 h2
    go_wp2_with fail
    go_ret2
    exact ⟨g0, cv, wr.heap.size + 1, wr.heap.size, rfl, HP.out _ H1.out.2, H1.out.1, HB.out.trans (H1.out.2.mono HB.out.size)⟩
end Go.Proofs.Ytkndmibmmoikbaa
namespace Go.Proofs.Ytkndmibmmoikbaa
open Go.RowKit
open Cox (Tl)
theorem chk372 : chk 3 7 2 = 0 := by kernel_rfl
section
variable {K : Type} [Cox.OR K] {W : Cox.Tri K}
theorem letters_apart (hm : ∀ i j, i ≠ j → W.m i j ≠ 1) {i j : Fin 3} (h : Cox.pi W [i] = Cox.pi W [j]) : i = j := by
 refine Decidable.byContradiction fun hij => ?_
 have hd0 : ∀ s, ¬ Cox.Down W [] s := by
  intro s hs
  unfold Cox.Down at hs
  rw [Cox.len_nil] at hs
  omega
 have h1 : Cox.pi W ([i] ++ [j]) = Cox.pi W [] := by
  rw [Cox.pi_right W h [j]]
  exact Cox.pi_back W [] j
 have hl1 : Cox.len W [i] = 1 := by
  have h2 := Cox.len_parity W [i]
  have h3 := Cox.len_le W [i]
  simp at h2 h3
  omega
 have h2 : Cox.Down W ([] ++ [i]) j := by
  unfold Cox.Down
  rw [List.nil_append, Cox.len_congr W h1, Cox.len_nil, hl1]
 obtain ⟨h3, h4⟩ := (Cox.down_other W hij (hd0 i)).1 h2
 have h5 := hm i j hij
 obtain ⟨n, hn⟩ : ∃ n, W.m i j - 1 = n + 1 := ⟨W.m i j - 2, by omega⟩
 rw [hn] at h4
 exact hd0 _ h4.1
theorem nf_letter (hm : ∀ i j, i ≠ j → W.m i j ≠ 1) (i : Fin 3) : Cox.nf W [i] = [i] := by
 have h1 := Cox.nf_parity W [i]
 have h2 := Cox.nf_le W [i]
 have h3 := Cox.nf_pi W [i]
 rcases hn : Cox.nf W [i] with _ | ⟨j, _ | ⟨k, r⟩⟩
 · rw [hn] at h1; simp at h1
 · rw [hn] at h3
   rw [letters_apart hm h3]
 · rw [hn] at h2; simp at h2
theorem nf_two (hm : ∀ i j, i ≠ j → W.m i j ≠ 1) {i j : Fin 3} (hij : i ≠ j) : (Cox.nf W [i, j]).length = 2 := by
 have h1 := Cox.nf_parity W [i, j]
 have h2 := Cox.nf_le W [i, j]
 have h3 := Cox.nf_pi W [i, j]
 rcases hn : Cox.nf W [i, j] with _ | ⟨a, _ | ⟨b, _ | ⟨c, r⟩⟩⟩
 · rw [hn] at h3
   have h4 := Cox.pi_right W h3 [j]
   have h5 := Cox.pi_back W [i] j
   exact (hij (letters_apart hm (h5.symm.trans h4.symm))).elim
 · rw [hn] at h1; simp at h1
 · rfl
 · rw [hn] at h2; simp at h2
end
theorem cw_wb {l : List (Fin 3)} (h : l.length ≤ 60) : cw (wb l) = 0 := by
 refine cw_ok ?_ (by rw [wb_size]; omega)
 rintro ⟨i, hi, hb⟩
 have hl : i < l.length := by rw [wb_size] at hi; exact hi
 have h1 : (wb l)[i] = UInt8.ofNat l[i].val := by
  show (wb l).data[i] = _
  simp [wb]
 rw [h1] at hb
 have h2 := u8_of l[i]
 have := l[i].isLt
 omega
theorem wb_empty : (⟨#[]⟩ : ByteArray) = wb [] := rfl
theorem wb_0 : (⟨#[0]⟩ : ByteArray) = wb [0] := rfl
theorem cw_empty : cw ⟨#[]⟩ = 0 := by rw [wb_empty]; exact cw_wb (by simp)
theorem unw_empty : unw ⟨#[]⟩ = [] := by rw [wb_empty, unw_wb]
theorem steps_one : stepsErr 3 7 2 ⟨#[0, 1, 0]⟩ ⟨#[1, 0, 1]⟩ [⟨3, 0, 0, 1⟩] = 0 := by
 have e1 : (⟨#[0, 1, 0]⟩ : ByteArray) = wb [0, 1, 0] := rfl
 have e2 : (⟨#[1, 0, 1]⟩ : ByteArray) = wb [1, 0, 1] := rfl
 rw [e1, e2]
 unfold stepsErr
 rw [if_neg (by rw [chk372]; simp), if_neg (by simp), if_neg (by rw [cw_wb (by simp)]; simp), if_neg (by rw [cw_wb (by simp)]; simp), unw_wb]
 have h1 : stepL 3 7 2 [0, 1, 0] ⟨3, 0, 0, 1⟩ = some [1, 0, 1] := by
  unfold stepL
  rw [if_pos ⟨by decide, by decide, ⟨by decide, by decide⟩, .inr rfl⟩]
  decide
 unfold runL
 rw [h1]
 show (if wb [1, 0, 1] = wb [1, 0, 1] then (0 : Int) else 20) = 0
 exact if_pos rfl
theorem steps_two : stepsErr 3 7 2 ⟨#[0, 2]⟩ ⟨#[2, 0]⟩ [] = 20 := by
 have e1 : (⟨#[0, 2]⟩ : ByteArray) = wb [0, 2] := rfl
 have e2 : (⟨#[2, 0]⟩ : ByteArray) = wb [2, 0] := rfl
 rw [e1, e2]
 unfold stepsErr
 rw [if_neg (by rw [chk372]; simp), if_neg (by simp), if_neg (by rw [cw_wb (by simp)]; simp), if_neg (by rw [cw_wb (by simp)]; simp), unw_wb]
 show (if wb [0, 2] = wb [2, 0] then (0 : Int) else 20) = 20
 refine if_neg (fun h => ?_)
 have h2 := wb_inj h
 revert h2
 decide
section
variable {K : Type} [Cox.OR K] (W : Cox.Tri K)
theorem cpair_same {s : ByteArray} (hs : cw s = 0) {m : Int} (hm : isMir m) : cpair (⟨s, m⟩, ⟨s, m⟩) = 0 := by
 have h : cedge ⟨s, m⟩ = 0 := by
  unfold cedge
  rw [if_neg (by simp [hs]), if_pos hm]
 unfold cpair
 rw [if_neg (by simp [h]), h]
theorem cws_of {l : List ByteArray} (h : ∀ s, s ∈ l → cw s = 0) : cws l = 0 := by
 induction l with
 | nil => rfl
 | cons a l ih =>
  unfold cws
  rw [if_pos (h a (by simp))]
  exact ih fun s hs => h s (by simp [hs])
theorem cpairs_of {l : List PairD} (h : ∀ s, s ∈ l → cpair s = 0) : cpairs l = 0 := by
 induction l with
 | nil => rfl
 | cons a l ih =>
  unfold cpairs
  rw [if_neg (by simp [h a (by simp)])]
  exact ih fun s hs => h s (by simp [hs])
theorem form_of {ts : List ByteArray} {ps : List PairD} (h1 : ts.length ≤ 200) (h2 : ps.length ≤ 600) (h3 : ∀ s, s ∈ ts → cw s = 0) (h4 : ∀ s, s ∈ ps → cpair s = 0) : form 3 7 2 ts ps = 0 := by
 unfold form
 rw [if_neg (by rw [chk372]; simp), if_neg (by omega), if_neg (by rw [cws_of h3]; simp)]
 exact cpairs_of h4
theorem mir_of (i : Fin 3) : isMir (i.val : Int) := ⟨by omega, by omega⟩
theorem a_form : form 3 7 2 [⟨#[]⟩] aPairs = 0 := by
 refine form_of (by simp) (by simp [aPairs]) (fun s hs => ?_) (fun q hq => ?_)
 · simp at hs; rw [hs]; exact cw_empty
 · simp only [aPairs, List.mem_cons, List.not_mem_nil, or_false] at hq
   rcases hq with rfl | rfl | rfl
   · exact cpair_same cw_empty (mir_of 0)
   · exact cpair_same cw_empty (mir_of 1)
   · exact cpair_same cw_empty (mir_of 2)
theorem a_tws : tws W [⟨#[]⟩] = [[]] := by
 unfold tws
 simp only [List.map_cons, List.map_nil, unw_empty, Cox.nf_nil]
theorem a_eds : eds W aPairs = [(([], 0), ([], 0)), (([], 1), ([], 1)), (([], 2), ([], 2))] := by
 unfold eds ned aPairs
 simp only [List.map_cons, List.map_nil, unw_empty, Cox.nf_nil]
 rfl
variable {W}
theorem a_nl (hm : ∀ i j, i ≠ j → W.m i j ≠ 1) : nlErr W 3 7 2 [⟨#[]⟩] aPairs = 0 := by
 have hap : ¬ Apart W (tws W [⟨#[]⟩]) := by
  rw [a_tws]
  rintro (h | h | h)
  · cases h
  · exact h (by simp)
  · refine h (fun u hu => ?_)
    have : u = [] := by simpa using hu
    subst this
    exact Rch.base
 refine nlErr_ok W a_form hap ?_
 rw [a_tws, a_eds]
 have ho : ∀ i, Outer W [[]] ([], i) := fun i => ⟨by simp, by
  show Cox.nf W ([] ++ [i]) ∉ _
  rw [List.nil_append, nf_letter hm]; simp⟩
 refine ⟨ho _, ho _, by simp, by simp, rfl, ho _, ho _, by simp, by simp, rfl, ho _, ho _, by simp, by simp, rfl, fun e he => ?_⟩
 obtain ⟨u, i⟩ := e
 have h1 : u = [] := by simpa using he.1
 subst h1
 have : ∀ i : Fin 3, i = 0 ∨ i = 1 ∨ i = 2 := by decide
 rcases this i with rfl | rfl | rfl <;> simp
theorem a_mv (i : Fin 3) : mv W (glu (eds W aPairs)) [] i = [] := by
 rw [a_eds]
 have : ∀ i : Fin 3, i = 0 ∨ i = 1 ∨ i = 2 := by decide
 rcases this i with rfl | rfl | rfl <;> simp [mv, glu]
theorem a_cyc (g : Nat) : ∀ y, y ∈ (aCys g).map (·.y) → CycOk W 3 7 2 [[]] (glu (eds W aPairs)) y := by
 have hon : ∀ s t, onceP W (glu (eds W aPairs)) [[]] s t := fun s t => ⟨by simpa using a_mv (W := W) t, fun k hk => by
  have : k = 0 := by simpa using hk
  subst this
  simpa using a_mv (W := W) _⟩
 have hw : ∀ i j r, CycD.words W [[]] ⟨[⟨#[]⟩], i, j, r, true⟩ := fun i j r => by
  refine ⟨fun s hs => ?_, fun u hu => ?_, ?_⟩
  · simp at hs; rw [hs]; exact cw_empty
  · rw [a_tws] at hu; exact hu
  · rw [a_tws]; simp
 have hr : ∀ i j r, ringP W (glu (eds W aPairs)) (tws W (CycD.tiles ⟨[⟨#[]⟩], i, j, r, true⟩)) (mf i) (mf j) true := fun i j r => by
  unfold ringP
  rw [if_pos rfl]
  show onceP W _ (tws W [⟨#[]⟩]) _ _ ∨ _
  rw [a_tws]
  exact .inl (hon _ _)
 intro y hy
 simp only [aCys, List.map_cons, List.map_nil, List.mem_cons, List.not_mem_nil, or_false] at hy
 rcases hy with rfl | rfl | rfl
 · exact ⟨⟨⟨by decide, by decide⟩, ⟨by decide, by decide⟩, by decide, by simp, by simp⟩, hw _ _ _, hr 0 1 3, ⟨by decide, by decide, by decide⟩⟩
 · exact ⟨⟨⟨by decide, by decide⟩, ⟨by decide, by decide⟩, by decide, by simp, by simp⟩, hw _ _ _, hr 0 2 2, ⟨by decide, by decide, by decide⟩⟩
 · exact ⟨⟨⟨by decide, by decide⟩, ⟨by decide, by decide⟩, by decide, by simp, by simp⟩, hw _ _ _, hr 1 2 7, ⟨by decide, by decide, by decide⟩⟩
theorem a_cors (i j r : Int) : cors W ⟨[⟨#[]⟩], i, j, r, true⟩ = [([], i + j)] := by
 unfold cors
 rw [a_tws]; rfl
theorem fits_three (hm : ∀ i j, i ≠ j → W.m i j ≠ 1) (g : Nat) : fitsErr W 3 7 2 [⟨#[]⟩] aPairs ((aCys g).map (·.y)) = 0 := by
 unfold fitsErr
 rw [if_neg (by rw [a_nl hm]; simp), if_pos]
 rw [a_tws]
 have hf : flat W ((aCys g).map (·.y)) = [([], 1), ([], 2), ([], 3)] := by
  simp [flat, aCys, a_cors]
 exact ⟨a_cyc g, by rw [hf]; simp, by rw [hf]; rfl⟩
theorem fits_four (hm : ∀ i j, i ≠ j → W.m i j ≠ 1) (g : Nat) : fitsErr W 3 7 2 [⟨#[]⟩] aPairs (((aCys g).take 2).map (·.y)) = 20 := by
 unfold fitsErr
 rw [if_neg (by rw [a_nl hm]; simp), if_neg]
 rintro ⟨_, _, h⟩
 rw [a_tws] at h
 have hf : flat W (((aCys g).take 2).map (·.y)) = [([], 1), ([], 2)] := by
  simp [flat, aCys, a_cors]
 rw [hf] at h
 simp at h
def bPairs : List PairD := [(⟨⟨#[]⟩, 1⟩, ⟨⟨#[]⟩, 1⟩), (⟨⟨#[]⟩, 2⟩, ⟨⟨#[]⟩, 2⟩), (⟨⟨#[0]⟩, 1⟩, ⟨⟨#[0]⟩, 1⟩), (⟨⟨#[0]⟩, 2⟩, ⟨⟨#[0]⟩, 2⟩)]
theorem cw_zero1 : cw ⟨#[0]⟩ = 0 := by rw [wb_0]; exact cw_wb (by simp)
theorem unw_zero1 : unw ⟨#[0]⟩ = [0] := by rw [wb_0, unw_wb]
theorem b_form : form 3 7 2 [⟨#[]⟩, ⟨#[0]⟩] bPairs = 0 := by
 refine form_of (by simp) (by simp [bPairs]) (fun s hs => ?_) (fun q hq => ?_)
 · simp only [List.mem_cons, List.not_mem_nil, or_false] at hs
   rcases hs with rfl | rfl
   · exact cw_empty
   · exact cw_zero1
 · simp only [bPairs, List.mem_cons, List.not_mem_nil, or_false] at hq
   rcases hq with rfl | rfl | rfl | rfl
   · exact cpair_same cw_empty (mir_of 1)
   · exact cpair_same cw_empty (mir_of 2)
   · exact cpair_same cw_zero1 (mir_of 1)
   · exact cpair_same cw_zero1 (mir_of 2)
theorem b_tws (hm : ∀ i j, i ≠ j → W.m i j ≠ 1) : tws W [⟨#[]⟩, ⟨#[0]⟩] = [[], [0]] := by
 unfold tws
 simp only [List.map_cons, List.map_nil, unw_empty, unw_zero1, Cox.nf_nil, nf_letter hm]
theorem b_eds (hm : ∀ i j, i ≠ j → W.m i j ≠ 1) : eds W bPairs = [(([], 1), ([], 1)), (([], 2), ([], 2)), (([0], 1), ([0], 1)), (([0], 2), ([0], 2))] := by
 unfold eds ned bPairs
 simp only [List.map_cons, List.map_nil, unw_empty, unw_zero1, Cox.nf_nil, nf_letter hm]
 rfl
theorem b_nl (hm : ∀ i j, i ≠ j → W.m i j ≠ 1) : nlErr W 3 7 2 [⟨#[]⟩, ⟨#[0]⟩] bPairs = 0 := by
 have h00 : Cox.nf W [0, 0] = [] := by
  exact (Cox.nf_congr W (Cox.pi_back W [] 0)).trans (Cox.nf_nil W)
 have hap : ¬ Apart W (tws W [⟨#[]⟩, ⟨#[0]⟩]) := by
  rw [b_tws hm]
  rintro (h | h | h)
  · cases h
  · exact h (by simp)
  · refine h (fun u hu => ?_)
    simp only [List.mem_cons, List.not_mem_nil, or_false] at hu
    rcases hu with rfl | rfl
    · exact Rch.base
    · have h1 : Nb W [] 0 = [0] := by unfold Nb; exact nf_letter hm 0
      rw [← h1]
      exact Rch.step 0 Rch.base (by rw [h1]; simp)
 refine nlErr_ok W b_form hap ?_
 rw [b_tws hm, b_eds hm]
 have ho : ∀ i, i ≠ 0 → Outer W [[], [0]] ([], i) := fun i hi => ⟨by simp, by
  show Cox.nf W ([] ++ [i]) ∉ _
  rw [List.nil_append, nf_letter hm]; simpa using hi⟩
 have ho2 : ∀ i, i ≠ 0 → Outer W [[], [0]] ([0], i) := fun i hi => ⟨by simp, by
  show Cox.nf W ([0] ++ [i]) ∉ _
  have h := nf_two hm (Ne.symm hi)
  intro h2
  simp only [List.mem_cons, List.not_mem_nil, or_false] at h2
  rcases h2 with h2 | h2
  · rw [List.singleton_append] at h2; rw [h2] at h; cases h
  · rw [List.singleton_append] at h2; rw [h2] at h; cases h⟩
 refine ⟨ho _ (by decide), ho _ (by decide), by simp, by simp, rfl, ho _ (by decide), ho _ (by decide), by simp, by simp, rfl, ho2 _ (by decide), ho2 _ (by decide), by simp, by simp, rfl, ho2 _ (by decide), ho2 _ (by decide), by simp, by simp, rfl, fun e he => ?_⟩
 obtain ⟨u, i⟩ := e
 have h1 : u = [] ∨ u = [0] := by simpa using he.1
 have h3 : ∀ i : Fin 3, i = 0 ∨ i = 1 ∨ i = 2 := by decide
 have h2 := he.2
 rcases h1 with rfl | rfl
 · rcases h3 i with rfl | rfl | rfl
   · exfalso
     apply h2
     show Cox.nf W ([] ++ [0]) ∈ _
     rw [List.nil_append, nf_letter hm]; simp
   · simp
   · simp
 · rcases h3 i with rfl | rfl | rfl
   · exfalso
     apply h2
     show Cox.nf W ([0] ++ [0]) ∈ _
     rw [List.singleton_append, h00]; simp
   · simp
   · simp
theorem over_five (hm : ∀ i j, i ≠ j → W.m i j ≠ 1) (h01 : W.m 0 1 = 3) : overR W 3 7 2 [⟨#[]⟩, ⟨#[0]⟩] bPairs [1, 3, 1] = (0, [], [0]) := by
 have hb : Cox.pi W [1, 0, 1] = Cox.pi W [0, 1, 0] := by
  have h := Cox.braid_pi W [] (a := 0) (b := 1) (by decide) (by rw [h01]; decide)
  rw [h01] at h
  exact h.symm
 have m1 : mot bPairs 1 = [1] := by
  unfold mot motq bPairs
  simp [unw_empty]
  rfl
 have m3 : mot bPairs 3 = [0, 1, 0] := by
  unfold mot motq bPairs
  simp [unw_zero1]
  rfl
 have e1 : Cox.nf W ([] ++ [1]) = [1] := nf_letter hm 1
 have hpi : Cox.pi W (Cox.nf W ([1] ++ [0, 1, 0]) ++ [1]) = Cox.pi W [0] := by
  rw [Cox.pi_right W (Cox.nf_pi W _) [1]]
  have s1 : Cox.pi W ([1, 0, 1] ++ [0, 1]) = Cox.pi W ([0, 1, 0] ++ [0, 1]) := Cox.pi_right W hb [0, 1]
  have s2 : Cox.pi W ([0, 1, 0] ++ [0, 1]) = Cox.pi W ([0, 1] ++ [1]) := Cox.pi_right W (Cox.pi_back W [0, 1] 0) [1]
  have s3 : Cox.pi W ([0, 1] ++ [1]) = Cox.pi W [0] := Cox.pi_back W [0] 1
  exact s1.trans (s2.trans s3)
 have e3 : Cox.nf W (Cox.nf W ([1] ++ [0, 1, 0]) ++ [1]) = [0] := by rw [Cox.nf_congr W hpi, nf_letter hm]
 have hl : (bPairs.length : Int) = 4 := rfl
 have hr : rowAt W bPairs [] [1, 3, 1] = some [0] := by
  unfold rowAt
  rw [if_pos (by rw [hl]; decide), m1, e1]
  unfold rowAt
  rw [if_pos (by rw [hl]; decide), m3]
  unfold rowAt
  rw [if_pos (by rw [hl]; decide), m1, e3]
  rfl
 rw [overR_go 3 7 2 _ _ _ (b_nl hm) (by simp) (by simp) hr, b_tws hm]
 unfold firstIn
 rw [if_pos (by rw [List.append_nil, nf_letter hm]; simp), List.append_nil, nf_letter hm]
end
end Go.Proofs.Ytkndmibmmoikbaa
