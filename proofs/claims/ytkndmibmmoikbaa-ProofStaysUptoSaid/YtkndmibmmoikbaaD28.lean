/- Chapter 10: Pr3 Fw0 Fw1 Fw2 Rf1 Rf2 Rf3. -/
import Derived.Test.YtkndmibmmoikbaaD27
import Derived.Deep.RegionHeld3
import Derived.Deep.CutRange
set_option linter.all false
set_option maxRecDepth 100000
set_option maxHeartbeats 16000000
namespace Go.Proofs.Ytkndmibmmoikbaa
open Go.RowKit
open Cox (Tl)
section
variable {K : Type} [Cox.OR K] {W : Cox.Tri K}
variable {B : Nat} {a b c : Int} {L p F M MP Wk : Nat} {w : World} {D : Dict} {ws : List (List (Fin 3))} {xs : List Nat} {rv wv pv : Value} {gs : List (EdgeW × List (Fin 3))} {A : List (Fin 3) → Nat} {y : CycD}
theorem right_yes (ho : Ords W a b c) (h : WSt W B a b c L p F M MP Wk w D ws xs rv wv pv gs A) (wi : World) (hB : B = wi.heap.size) (hwi : Below B wi w) (pt : Option Addr) (ct : Nat) (hts : StrsAt wi pt y.tiles) (hn : y.head ws.length) (hl2 : ws.length ≤ 200) (hsz : ∀ s, s ∈ y.tiles → s.size ≤ maxLen) :
 Calls Try.prog 23 #[.pointer (some ⟨Wk, 0, none⟩), cval pt ct y] w (RightPost W B a b c L p F M MP Wk w D ws xs rv wv pv gs A y) := by
 have hBw : B ≤ w.heap.size := by have := hwi.size; omega
 obtain ⟨Q, hQ⟩ : ∃ Q, Q = RightPost W B a b c L p F M MP Wk w D ws xs rv wv pv gs A y := ⟨_, rfl⟩
 rw [← hQ]
 have HP : Hid (∀ w', ¬ CycOk W a b c ws gs y → Below B w w' → Q (.panicked (refusal 20)) w') := Hi (fun w' hno hb => by rw [hQ]; exact .inl ⟨hno, rfl, hb⟩)
 have HY : Hid (∀ (D' : Dict) (ys : List Nat) (g cap : Nat) w', CycOk W a b c ws gs y → WSt W B a b c L p F M MP Wk w' D' ws xs rv wv pv gs A → TExt w D w' D' → w'.ownsRow w.heap.size 69 1 (.slice (some ⟨g, 0, none⟩) y.tiles.length cap) y.tiles.length (ys.map pval) → ys.length = y.tiles.length → ¬ D'.dom g → (∀ i (h : i < (tws W y.tiles).length) (h' : i < ys.length), D' (tws W y.tiles)[i] ys[i]) → Q (.returned (.slice (some ⟨g, 0, none⟩) y.tiles.length cap)) w') :=
  Hi (fun (D' : Dict) (ys : List Nat) g cap w' h1 h2 h3 h4 h5 h6 h7 => by rw [hQ]; exact .inr ⟨h1, D', ys, g, cap, rfl, h2, h3, h4, h5, h6, h7⟩)
 clear hQ
 have HN := Lib.hid hn
 obtain ⟨⟨hi0, hi2⟩, ⟨hj0, hj2⟩, hij, hl0, hln⟩ := hn
 have HW := Hi (And.intro h.lt (And.intro hBw (And.intro hB hwi)))
 have NN := Hi (fun w => need_no 20 w)
 have NY := Hi (fun w => need_yes 20 w)
 have HO := Lib.hid ho
 have HTS := Lib.hid hts
 have HSZ := Lib.hid hsz
 have HWO := Hi (fun s hs w => isword_any s hs w)
 have II : Hid (∀ w, Calls Try.prog 30 #[.int .i64 y.i] w fun e w' => e = .returned (.bool true) ∧ w' = w) := Hi (fun w => by
  have := isletter_any y.i w
  rw [decide_eq_true ⟨hi0, hi2⟩] at this
  exact this)
 have IJ : Hid (∀ w, Calls Try.prog 30 #[.int .i64 y.j] w fun e w' => e = .returned (.bool true) ∧ w' = w) := Hi (fun w => by
  have := isletter_any y.j w
  rw [decide_eq_true ⟨hj0, hj2⟩] at this
  exact this)
 have hrv : ∃ pq cap, rv = .slice pq xs.length cap := by
  rcases h.lst.row.2 with ⟨h1, h2⟩ | ⟨g, cap, cur, hv, _⟩
  · exact ⟨none, 0, by rw [h1, h2]⟩
  · exact ⟨_, cap, hv⟩
 obtain ⟨pq, cap, hrv⟩ := hrv
 have k0 : w.cell? ⟨Wk, 0, none⟩ = some (.pointer (some ⟨L, 0, none⟩)) := by rw [cell_of h.head]; rfl
 have k1 : w.cell? ⟨L, 1, none⟩ = some (.slice pq xs.length cap) := by rw [cell_of h.lst.head, ← hrv]; rfl
 have hmk := @run_makeMap Try.prog
 have hxl := h.lst.len
 have HST : Hid (∀ cs T, RtSt W B a b c L p F M MP Wk w D ws xs rv wv pv gs A y (.cells cs T (0, 0)) 0 D (.slice none 0 0) [] ((w.alloc (.cells cs T)).drew.alloc (.map #[] 0))) := Hi (fun cs T => RtSt.start2 h cs T)
 obtain ⟨oc, hoc⟩ : ∃ oc : Obj, oc = .cells #[.slice pt y.tiles.length ct, .int .i64 y.i, .int .i64 y.j, .int .i64 y.rounds, .bool y.mir] 48 (0, 0) := ⟨_, rfl⟩
 have HBX : Hid (∀ wr : World, wr.heap[w.heap.size]? = some oc → wr.cell? ⟨w.heap.size, 0, none⟩ = some (.slice pt y.tiles.length ct) ∧ wr.cell? ⟨w.heap.size, 1, none⟩ = some (.int .i64 y.i) ∧ wr.cell? ⟨w.heap.size, 2, none⟩ = some (.int .i64 y.j) ∧ wr.cell? ⟨w.heap.size, 3, none⟩ = some (.int .i64 y.rounds) ∧ wr.cell? ⟨w.heap.size, 4, none⟩ = some (.bool y.mir)) := Hi (fun wr hwr => by
  rw [hoc] at hwr
  exact ⟨by rw [cell_of hwr]; rfl, by rw [cell_of hwr]; rfl, by rw [cell_of hwr]; rfl, by rw [cell_of hwr]; rfl, by rw [cell_of hwr]; rfl⟩)
 unfold cval
 clear h hts hsz ho hwi
 have d4 : (0 : Int) < (y.tiles.length : Int) := by omega
 have d5 : decide (y.tiles.length ≤ ws.length) = true := decide_eq_true hln
 have d6 : decide (0 < y.tiles.length) = true := decide_eq_true hl0
 go_enter Try.func23, Try.ntmps23
 go_upto_region 1 with fail
 obtain ⟨wb0, hwb, hbb, c0, c1, c2, c3, c4, hold⟩ := cyc_box w [] _ _ _ _ _
 rw [hwb]
 have HST0 := Hi (HST.out #[.slice pt y.tiles.length ct, .int .i64 y.i, .int .i64 y.j, .int .i64 y.rounds, .bool y.mir] 48)
 rw [hwb, ← hoc] at HST0
 have k2 := hold _ _ k0
 have k3 := hold _ _ k1
 have hsb : wb0.heap.size = w.heap.size + 1 := by rw [← hwb]; simp
 clear hwb hbb hold HST
 refine region_quiet_tail 35 (by kernel_rfl) (by kernel_rfl) ?_
 simp only [List.take_succ_cons, List.take_zero, List.drop_succ_cons, List.drop_zero]
 intro wd hwd
 rw [← hwd] at c0 c1 c2 c3 c4 k2 k3 HST0
 have hsd : wd.heap.size = w.heap.size + 1 := by rw [hwd]; exact hsb
 clear hwd hsb
 repeat (first | go_big_quiet_skip | (go_big_quiet_want; go_big_quiet_op; first | go_big_quiet_on | (apply Exists.intro; refine ⟨?_, ?_⟩; (first | exact II.out _ | exact IJ.out _); go_big_quiet_on)))
 refine wpQuiet_nil ?_
 go_upto_region 4 with (go_at_call 24; refine (NY.out _).mono ?_; rintro e w2 ⟨rfl, rfl⟩)
 have k4 := cell_alloc c0 (.map #[] 0)
 generalize wd.alloc (.map #[] 0) = w1 at *
 clear c0 c1 c2 c3 c4 k0 k1 k2 k3 hsd
 go_wp2_with fail
 go_loopw [5, 54] (fun t5 t54 wr => ∃ (k : Nat) (D' : Dict) (tv : Value) (ys : List Nat), t5 = tv ∧ t54 = .int .i64 (k : Nat) ∧ k ≤ y.tiles.length ∧ Hid (RtSt W B a b c L p F M MP Wk w D ws xs rv wv pv gs A y oc k D' tv ys wr)) (fun _ t _ => y.tiles.length - (intOf t).toNat)
 case atStart => exact ⟨0, D, _, [], rfl, rfl, by omega, HST0⟩
 case round =>
  obtain ⟨k, D', tv, ys, rfl, rfl, hk, HK⟩ := hrel
  by_cases hlt : k < y.tiles.length
  · have hbl : Below B wi wr := HW.out.2.2.2.trans (HK.out.all HW.out.2.1)
    rw [HW.out.2.2.1] at hbl
    obtain ⟨bt, ot, hpt, hr⟩ := (HTS.out.below hbl) (by intro h; rw [h] at hlt; simp at hlt)
    have q0 := hr k hlt
    clear hr hbl
    subst hpt
    have q1 : (k : Int) < (y.tiles.length : Int) := by omega
    have q2 : (0 : Int) ≤ (k : Int) := by omega
    have IWk := Hi (fun w => HWO.out y.tiles[k] (HSZ.out _ (List.getElem_mem hlt)) w)
    have HCB := Hi (fun (h : cw y.tiles[k] ≠ 0) => cyc_badword (W := W) (a := a) (b := b) (c := c) (ws := ws) (gs := gs) hlt h)
    have HCO := Hi (fun h => cyc_out (W := W) (a := a) (b := b) (c := c) (ws := ws) (gs := gs) hlt h)
    have HCM := Hi (fun h => cyc_met (W := W) (a := a) (b := b) (c := c) (ws := ws) (gs := gs) hlt h)
    have HLT := Lib.hid hlt
    generalize hske : y.tiles[k] = sk at *
    have HSKE := Lib.hid hske
    clear hske
    by_cases hcw : cw sk = 0
    case neg =>
     have HNO := Hi (HCB.out hcw)
     clear HCB HCO HCM
     generalize cw sk = ce at *
     have hb0 : (ce == 0) = false := by simpa using hcw
     go_wp2_with (first | (go_at_call 28; refine (IWk.out _).mono ?_; rintro e w4 ⟨rfl, hb4⟩; have HB4 := Lib.hid hb4; clear hb4) | (go_at_call 24; refine (NN.out _).mono ?_; rintro e w5 ⟨rfl, rfl⟩))
     exact ⟨rfl, HP.out _ HNO.out ((HK.out.below HB4.out).all HW.out.2.1)⟩
    case pos =>
     obtain ⟨l, hsk, hl60⟩ : ∃ l, sk = wb l ∧ l.length ≤ 60 := ⟨_, (cw_unw hcw).1, (cw_unw hcw).2⟩
     have HCW := Lib.hid hcw
     rw [hcw] at IWk
     have HUL : Hid (Cox.nf W (unw sk) = Cox.nf W l) := Hi (by rw [hsk, unw_wb])
     rw [HUL.out] at HCO HCM
     rw [hsk] at IWk q0
     have LD : Hid (∀ w4 wd : World, RtSt W B a b c L p F M MP Wk w D ws xs rv wv pv gs A y oc k D' u5 ys w4 → wd = w4.drew → Calls Try.prog 33 #[.pointer (some ⟨p, 0, none⟩), .pointer (some ⟨F, 0, none⟩), .string (wb l)] wd fun e w' => ∃ D2 x, e = .returned (.pointer (some ⟨x, 0, none⟩)) ∧ D2 (Cox.nf W l) x ∧ RtSt W B a b c L p F M MP Wk w D ws xs rv wv pv gs A y oc k D2 u5 ys w') := Hi (by
      rintro w4 wd h4 rfl
      have hd := h4.below (w2 := w4.drew) ((Below.refl _ _).drew)
      refine (lead_any W HO.out hd.ws_.lst.td hd.ws_.lst.td.root l (by simp; omega)).mono ?_
      rintro e w' ⟨D2, x, rfl, g1, g2, g3⟩
      exact ⟨D2, x, rfl, g1, hd.step (hd.ws_.ext g3 g2) g3⟩)
     have HCL : Hid (∀ (w4 wd : World), RtSt W B a b c L p F M MP Wk w D ws xs rv wv pv gs A y oc k D' u5 ys w4 → wd = w4.drew → wd.cell? ⟨Wk, 0, none⟩ = some (.pointer (some ⟨L, 0, none⟩)) ∧ wd.cell? ⟨L, 0, none⟩ = some (.pointer (some ⟨p, 0, none⟩)) ∧ wd.cell? ⟨p, 3, none⟩ = some (.pointer (some ⟨F, 0, none⟩))) := Hi (by
      rintro w4 wd h4 rfl
      have hd := h4.below (w2 := w4.drew) ((Below.refl _ _).drew)
      exact ⟨by rw [cell_of hd.ws_.head]; rfl, hd.ws_.lst.cell0, hd.ws_.lst.td.cell3⟩)
     have HHA : Hid (∀ (D2 : Dict) (w' : World) (x : Nat), RtSt W B a b c L p F M MP Wk w D ws xs rv wv pv gs A y oc k D2 u5 ys w' → D2 (Cox.nf W l) x → w'.cell? ⟨Wk, 0, none⟩ = some (.pointer (some ⟨L, 0, none⟩)) ∧ (Calls Try.prog 36 #[.pointer (some ⟨L, 0, none⟩), .pointer (some ⟨x, 0, none⟩)] w' fun e w2 => e = .returned (.bool (decide (Cox.nf W l ∈ ws))) ∧ w2 = w') ∧ (Instr.lookup 115 (.map (some (w.heap.size + 1))) (.pointer (some ⟨x, 0, none⟩)) false).run Try.prog w' = .ok (.bool (decide (Cox.nf W l ∈ (tws W y.tiles).take k))) w') := Hi (by
      intro D2 w' x h4 hx
      exact ⟨by rw [cell_of h4.ws_.head]; rfl, has_any h4.ws_.lst hx, h4.q.look h4.ws_.lst.td hx⟩)
     clear hcw HCB hsk
     obtain ⟨v, hv⟩ : ∃ v, v = Cox.nf W l := ⟨_, rfl⟩
     rw [← hv] at LD HHA HUL HCO HCM
     clear hv
     go_upto_region 8 with (first | (go_at_call 28; refine (IWk.out _).mono ?_; rintro e w4 ⟨rfl, hb4⟩; have HB4 := Hi (HK.out.below hb4); clear hb4) | (go_at_call 24; refine (NY.out _).mono ?_; rintro e w5 ⟨rfl, rfl⟩))
     refine region_quiet_tail 18 (by kernel_rfl) (by kernel_rfl) ?_
     simp only [List.take_succ_cons, List.take_zero, List.drop_succ_cons, List.drop_zero]
     intro wd hwd
     obtain ⟨r0, r1, r2⟩ := HCL.out w4 wd HB4.out hwd
     have LDD := Hi (LD.out w4 wd HB4.out hwd)
     clear hwd q0 LD HCL HWO IWk
     repeat (first | go_big_quiet_skip | (go_big_quiet_want; go_big_quiet_op; first | go_big_quiet_on | (apply Exists.intro; refine ⟨?_, ?_⟩; (fail); go_big_quiet_on)))
     refine wpQuiet_nil ?_
     by_cases hvw : v ∈ ws
     case neg =>
      have HNO := Hi (HCO.out hvw)
      have dvw : decide (v ∈ ws) = false := decide_eq_false hvw
      rw [dvw] at HHA
      clear hvw dvw HCO HCM
      go_wp2_with (first
       | (go_at_call 33; refine LDD.out.mono ?_; rintro e w6 ⟨D2, x, rfl, hx6, h6⟩; have H6 := Lib.hid h6; obtain ⟨a0, ha, hlk⟩ := HHA.out _ _ _ h6 hx6; have HHAS := Lib.hid ha; clear hx6 h6 ha)
       | (go_at_call 36; refine HHAS.out.mono ?_; rintro e w7 ⟨rfl, rfl⟩)
       | (go_at_call 24; refine (NN.out _).mono ?_; rintro e w8 ⟨rfl, rfl⟩))
      exact ⟨rfl, HP.out _ HNO.out (H6.out.all HW.out.2.1)⟩
     case pos =>
      have dvw : decide (v ∈ ws) = true := decide_eq_true hvw
      rw [dvw] at HHA
      by_cases hvm : v ∈ (tws W y.tiles).take k
      case pos =>
       have HNO := Hi (HCM.out hvm)
       have dvm : decide (v ∈ (tws W y.tiles).take k) = true := decide_eq_true hvm
       rw [dvm] at HHA
       clear hvw hvm dvw dvm HCO HCM
       go_wp2_with (first
        | (go_at_call 33; refine LDD.out.mono ?_; rintro e w6 ⟨D2, x, rfl, hx6, h6⟩; have H6 := Lib.hid h6; obtain ⟨a0, ha, hlk⟩ := HHA.out _ _ _ h6 hx6; have HHAS := Lib.hid ha; clear hx6 h6 ha)
        | (go_at_call 36; refine HHAS.out.mono ?_; rintro e w7 ⟨rfl, rfl⟩)
        | (go_at_call 24; refine (NN.out _).mono ?_; rintro e w8 ⟨rfl, rfl⟩))
       exact ⟨rfl, HP.out _ HNO.out (H6.out.all HW.out.2.1)⟩
      case neg =>
       have HVM := Hi (And.intro hvw hvm)
       have dvm : decide (v ∈ (tws W y.tiles).take k) = false := decide_eq_false hvm
       rw [dvm] at HHA
       clear hvw hvm dvw dvm HCO HCM
       obtain ⟨i69, hi69, hz0, hz1, hz2⟩ := info_parts info69
       have hyl := HK.out.ylen hk
       have m1 : ys.length + 1 ≤ maxLen := by unfold maxLen; omega
       have m2 : (ys.length + 1) * 8 ≤ 140737488355328 := by omega
       have HYL := Lib.hid hyl
       clear hyl
       go_wp2_with (first
        | (go_at_call 33; refine LDD.out.mono ?_; rintro e w6 ⟨D2, x, rfl, hx6, h6⟩; have H6 := Hi (And.intro h6 hx6); obtain ⟨a0, ha, hlk⟩ := HHA.out _ _ _ h6 hx6; have HHAS := Lib.hid ha; obtain ⟨w5, hup5, hm5, ho5, hs5⟩ := h6.q.put h6.ws_.lst.td hx6 HVM.out.2; have HOW := Hi (h6.q.ownsA ho5 (.cells #[.pointer (some ⟨x, 0, none⟩)] 69)); have HHS := Hi (show w.heap.size ≤ (w5.alloc (.cells #[.pointer (some ⟨x, 0, none⟩)] 69)).heap.size by have h1 := h6.ext.out.size; simp; omega); have H5 := Hi (And.intro hm5 ho5); clear hx6 h6 ha hm5 ho5 hs5)
        | (go_at_call 36; refine HHAS.out.mono ?_; rintro e w7 ⟨rfl, rfl⟩)
        | (go_at_call 24; refine (NY.out _).mono ?_; rintro e w8 ⟨rfl, rfl⟩)
        | (at_builtin; refine wpList_append_lies _ rfl (.tmp 96) (.tmp 98) 67 rfl w.heap.size 69 i69 _ 1 8 Try.underlying67 hi69 hz0 hz1 hz2 rfl (by decide) u5 ys.length (ys.map pval) rfl HOW.out ⟨w5.heap.size, 0, none⟩ 1 1 [pval x] rfl rfl (World.news_of_block (str_new _ _ _ _ rfl)) (by intro u hu; simp at hu; subst hu; rfl) (by decide) m1 m2 HHS.out _ rfl ?_; intro g9 cap9 w9 hown9 hgr9 hat9 hlt9; have H9 := Hi (And.intro hown9 (And.intro hgr9 hat9)); clear hown9 hgr9 hat9 hlt9))
       go_roundw
       case rel =>
        refine ⟨k + 1, D2, _, ys ++ [x], rfl, by go_num, by omega, Lib.hid ?_⟩
        exact H6.out.1.pushed HW.out.1 HLT.out ((congrArg cw HSKE.out).trans HCW.out) ((congrArg (fun s => Cox.nf W (unw s)) HSKE.out).trans HUL.out) H6.out.2 HVM.out.1 HVM.out.2 H5.out.1 H5.out.2 H9.out.1 H9.out.2.1 H9.out.2.2
       case measure => simp [intOf]; omega
  · have hke : k = y.tiles.length := by omega
    subst hke
    have q1 : ¬ (y.tiles.length : Int) < (y.tiles.length : Int) := by omega
    go_upto_region 13 with fail
    obtain ⟨si, hsi⟩ : ∃ si : Fin 3, y.i = (si.val : Int) := ⟨mf y.i, mf_of HN.out.1⟩
    obtain ⟨sj, hsj⟩ : ∃ sj : Fin 3, y.j = (sj.val : Int) := ⟨mf y.j, mf_of HN.out.2.1⟩
    have hsij : si ≠ sj := fun e => by rw [hsi, hsj, e] at hij; omega
    have hcell := HBX.out _ HK.out.box
    rw [hsi, hsj] at hcell
    obtain ⟨c0, c1, c2, c3, c4⟩ := hcell
    have r0 : wr.cell? ⟨Wk, 0, none⟩ = some (.pointer (some ⟨L, 0, none⟩)) := by rw [cell_of HK.out.ws_.head]; rfl
    have r1 := HK.out.ws_.lst.cell0
    have hyl := HK.out.ylen (Nat.le_refl _)
    have hne : 0 < ys.length := by omega
    obtain ⟨g, cap, hu5, hg0⟩ := owns_at HK.out.q.row (i := 0) (by simpa using hne)
    rw [hyl] at hu5
    subst hu5
    clear hg0
    obtain ⟨m0, hm0⟩ : ∃ m0 : Int, m0 = ordz a b c y.i y.j := ⟨_, rfl⟩
    have hm01 : 0 ≤ m0 ∧ m0 < 100 := by
     have h1 := HO.out.eq si sj hsij
     have h2 := HO.out.lt si sj
     rw [hm0]
     unfold ordz
     rw [hsi, hsj, h1]
     omega
    have OAN : Hid (∀ n, Calls Try.prog 50 #[.pointer (some ⟨p, 0, none⟩), .int .i64 (si.val : Int), .int .i64 (sj.val : Int)] (wr.drewN n) fun e w' => e = .returned (.int .i64 m0) ∧ ∃ m, w' = (wr.drewN n).drewN m) := Hi (fun n => by
     have := order_any a b c p F si sj hsij (wr.drewN n) HK.out.ws_.lst.td.head.1
     rw [hm0]
     unfold ordz
     rw [hsi, hsj]
     exact this)
    have hlen : ∀ i, ((tws W y.tiles).getD i []).length < 90000 := by
     intro i
     rcases Nat.lt_or_ge i (tws W y.tiles).length with h1 | h1
     · have hg := HK.out.good
       rw [List.take_of_length_le (Nat.le_refl _)] at hg
       have := tws_len W hg _ (List.getElem_mem h1)
       rw [List.getD_eq_getElem?_getD, List.getElem?_eq_getElem h1]
       show (tws W y.tiles)[i].length < 90000
       omega
     · rw [List.getD_eq_getElem?_getD, List.getElem?_eq_none h1]
       show ([] : List (Fin 3)).length < 90000
       simp
    have HLEN := Lib.hid hlen
    have HSI := Hi (And.intro hsi (And.intro hsj (And.intro hsij hm0)))
    have HZ := Hi (fun n => HK.out.below (w2 := wr.drewN n) (drewN_below _ _ _))
    clear hlen hsi hsj hsij hm0 HBX
    go_quiet ((go_at_call 50; exact Calls.quiet_of (OAN.out _)))
    have HZ2 := Hi (HZ.out nq)
    clear HZ c0 c1 c2 c3 c4 r0 r1 OAN
    generalize wr.drewN nq = wz at *
    have HE : Hid (RtEnd W B a b c L p F M MP Wk w D ws xs rv wv pv gs A y Q) := Lib.hid ⟨fun w' h1 h2 => HP.out w' h1 h2, fun D' ys g cap w' h1 h2 h3 h4 h5 h6 h7 => HY.out D' ys g cap w' h1 h2 h3 h4 h5 h6 h7⟩
    refine (‹∀ (a : Act) (w : World), Code.wp Try.prog _ (bodyPost Try.prog Try.f23 Q) a w → (_ : Act → World → Prop) a w›) _ _ ?_
    exact right_t14 HE HO HW.out.2.1 HN.out hl2 (Lib.hid hoc) HZ2 ⟨by omega, by omega⟩ HSI.out.2.2.2 (Lib.hid ⟨HSI.out.1, HSI.out.2.1⟩) HLEN
end
end Go.Proofs.Ytkndmibmmoikbaa
namespace Go.Proofs.Ytkndmibmmoikbaa
open Go.RowKit
open Cox (Tl)
section
variable {K : Type} [Cox.OR K] {W : Cox.Tri K}
variable {B : Nat} {a b c : Int} {L p F M MP Wk : Nat} {w : World} {D : Dict} {ws : List (List (Fin 3))} {xs : List Nat} {rv wv pv : Value} {gs : List (EdgeW × List (Fin 3))} {A : List (Fin 3) → Nat} {y : CycD}
theorem right_any (ho : Ords W a b c) (h : WSt W B a b c L p F M MP Wk w D ws xs rv wv pv gs A) (wi : World) (hB : B = wi.heap.size) (hwi : Below B wi w) (pt : Option Addr) (ct : Nat) (hts : StrsAt wi pt y.tiles) (hl1 : y.tiles.length ≤ maxLen) (hl2 : ws.length ≤ 200) (hsz : ∀ s, s ∈ y.tiles → s.size ≤ maxLen) :
 Calls Try.prog 23 #[.pointer (some ⟨Wk, 0, none⟩), cval pt ct y] w (RightPost W B a b c L p F M MP Wk w D ws xs rv wv pv gs A y) := by
 by_cases hn : y.head ws.length
 · exact right_yes ho h wi hB hwi pt ct hts hn hl2 hsz
 · exact right_head h (by have := hwi.size; omega) pt ct hn hl1 hl2
end
abbrev CornW := List (Fin 3) × Int
def ckey (x : Nat) (n : Int) : Value := .agg #[.pointer (some ⟨x, 0, none⟩), .int .i64 n]
theorem ckey_inj {x y : Nat} {i j : Int} (h : ckey x i = ckey y j) : x = y ∧ i = j := by
 unfold ckey at h
 simp at h
 exact h
theorem corner_kin (w : World) : Mp.Kin Try.prog 71 w (Mp.PairKey w) := by
 obtain ⟨j, hj, _, hj1, _⟩ := info_parts info124
 exact Mp.pair_kin (tp := 69) (te := 124) (ti := 3) w Try.underlying71 rfl rfl rfl rfl (by decide) (by decide) (by kernel_rfl) (by kernel_rfl) (by kernel_rfl) hj (by rw [hj1]; decide)
structure CSt (H : Nat) (w : World) (D : Dict) (A : List (Fin 3) → Nat) (MC : Nat) (cs : List CornW) : Prop where
 map : MapOf w MC (cs.map fun e => (ckey (A e.1) e.2, .bool true))
 nodup : cs.Nodup
 at_ : ∀ e, e ∈ cs → D e.1 (A e.1)
 lo : H ≤ MC
 sep : ¬ D.dom MC
section
variable {K : Type} [Cox.OR K] {W : Cox.Tri K}
variable {H : Nat} {a b c : Int} {p F : Nat} {w : World} {D : Dict} {A : List (Fin 3) → Nat} {MC : Nat} {cs : List CornW}
theorem CSt.ext (h : CSt H w D A MC cs) {w' : World} {D' : Dict} (g : TExt w D w' D') : CSt H w' D' A MC cs :=
 ⟨h.map.keep (g.keep h.map.lt h.sep).1, h.nodup, fun e he => g.more _ _ (h.at_ e he), h.lo, (g.keep h.map.lt h.sep).2⟩
theorem CSt.out (h : CSt H w D A MC cs) {S : Nat → Prop} {w' : World} (ho : Out S w w') (hM : ¬ S MC) : CSt H w' D A MC cs :=
 ⟨h.map.keep (ho.block MC h.map.lt hM), h.nodup, h.at_, h.lo, h.sep⟩
theorem CSt.below (h : CSt H w D A MC cs) {w' : World} (hb : Below w.heap.size w w') : CSt H w' D A MC cs :=
 h.out (S := fun _ => False) (Out.of_below hb) (fun e => e)
theorem TD.ckey (td : TD W a b c p F w D) {u : List (Fin 3)} {x : Nat} (hx : D u x) (n : Int) : Mp.PairKey w (ckey x n) := ⟨_, _, rfl, td.key hx⟩
theorem CSt.keys (h : CSt H w D A MC cs) (td : TD W a b c p F w D) : ∀ kv ∈ (cs.map fun e => (ckey (A e.1) e.2, Value.bool true)), Mp.PairKey w kv.1 := by
 intro kv hkv
 obtain ⟨e, he, rfl⟩ := List.mem_map.1 hkv
 exact td.ckey (h.at_ e he) _
theorem CSt.key_inj (h : CSt H w D A MC cs) (td : TD W a b c p F w D) {e : CornW} (he : e ∈ cs) {u : List (Fin 3)} {x : Nat} (hx : D u x) {n : Int} (hk : Go.Proofs.Ytkndmibmmoikbaa.ckey (A e.1) e.2 = Go.Proofs.Ytkndmibmmoikbaa.ckey x n) : e = (u, n) := by
 obtain ⟨h1, h2⟩ := ckey_inj hk
 have h3 := h.at_ e he
 rw [h1] at h3
 have h4 := td.word_inj h3 hx
 obtain ⟨e1, e2⟩ := e
 simp only at h2 h4
 rw [h2, h4]
theorem CSt.fst (cs : List CornW) (A : List (Fin 3) → Nat) : (cs.map fun e => (ckey (A e.1) e.2, Value.bool true)).map (·.1) = cs.map fun e => ckey (A e.1) e.2 := by
 rw [List.map_map]; rfl
theorem CSt.kn (h : CSt H w D A MC cs) (td : TD W a b c p F w D) : ((cs.map fun e => (ckey (A e.1) e.2, Value.bool true)).map (·.1)).Nodup := by
 rw [CSt.fst, List.nodup_iff_pairwise_ne, List.pairwise_iff_getElem]
 intro i j hi hj hij he
 simp only [List.length_map] at hi hj
 rw [List.getElem_map, List.getElem_map] at he
 have h1 := h.key_inj td (List.getElem_mem hi) (h.at_ _ (List.getElem_mem hj)) he
 have h2 := List.nodup_iff_pairwise_ne.1 h.nodup
 rw [List.pairwise_iff_getElem] at h2
 exact h2 i j hi hj hij h1
theorem CSt.look (h : CSt H w D A MC cs) (td : TD W a b c p F w D) {u : List (Fin 3)} (hx : D u (A u)) {n : Int} :
 (Instr.lookup 66 (.map (some MC)) (.agg #[.pointer (some ⟨A u, 0, none⟩), .int .i64 n]) false).run Try.prog w = .ok (.bool (decide ((u, n) ∈ cs))) w := by
 by_cases hm : (u, n) ∈ cs
 · rw [decide_eq_true hm]
   have := h.map.lookup_in (corner_kin w) (mt := 66) (et := 4) Try.underlying66 (h.keys td) (h.kn td) (k := Go.Proofs.Ytkndmibmmoikbaa.ckey (A u) n) (v := .bool true) (List.mem_map.2 ⟨(u, n), hm, rfl⟩) false
   exact this
 · rw [decide_eq_false hm]
   have := h.map.lookup_out (corner_kin w) (mt := 66) (et := 4) Try.underlying66 (h.keys td) (k := Go.Proofs.Ytkndmibmmoikbaa.ckey (A u) n) (td.ckey hx n) (by
    rw [CSt.fst]
    intro e
    obtain ⟨e', he', hk⟩ := List.mem_map.1 e
    exact hm (h.key_inj td he' hx hk ▸ he')) (z4 w) false
   exact this
theorem CSt.add (h : CSt H w D A MC cs) (td : TD W a b c p F w D) {u : List (Fin 3)} (hx : D u (A u)) {n : Int} (hm : (u, n) ∉ cs) :
 ∃ w1, (Instr.mapUpdate 66 (.map (some MC)) (.agg #[.pointer (some ⟨A u, 0, none⟩), .int .i64 n]) (.bool true)).run Try.prog w = .ok () w1 ∧ CSt H w1 D A MC (cs ++ [(u, n)]) ∧ Out (fun b => b = MC) w w1 ∧ w1.heap.size = w.heap.size := by
 obtain ⟨w1, h1, h2, h3, h4⟩ := h.map.update_out (corner_kin w) (mt := 66) (et := 4) Try.underlying66 (h.keys td) (k := Go.Proofs.Ytkndmibmmoikbaa.ckey (A u) n) (td.ckey hx n) (by
  rw [CSt.fst]
  intro e
  obtain ⟨e', he', hk⟩ := List.mem_map.1 e
  exact hm (h.key_inj td he' hx hk ▸ he')) (.bool true)
 refine ⟨w1, h1, ⟨?_, ?_, ?_, h.lo, h.sep⟩, h3, h4⟩
 · rw [List.map_append]
   exact h2
 · rw [List.nodup_append]
   exact ⟨h.nodup, by simp, fun v hv z hz => by simp at hz; subst hz; exact fun e => hm (e ▸ hv)⟩
 · intro e he
   rcases List.mem_append.1 he with he | he
   · exact h.at_ e he
   · simp at he
     subst he
     exact hx
theorem CSt.start (w : World) (D : Dict) (A : List (Fin 3) → Nat) (hd : ∀ x, D.dom x → x < w.heap.size) (hH : H ≤ w.heap.size) : CSt H (w.alloc (.map #[] 0)) D A w.heap.size [] :=
 ⟨MapOf.new w, by simp, (fun e he => by cases he), hH, fun h => by have := hd _ h; omega⟩
theorem CSt.count (h : CSt H w D A MC cs) : ∃ es clock, w.heap[MC]? = some (.map es clock) ∧ es.size = cs.length := by
 obtain ⟨es, clock, h1, h2, _⟩ := h.map
 refine ⟨es, clock, h1, ?_⟩
 have := congrArg List.length h2
 simpa using this
end
structure CycA where
 pt : Option Addr
 ct : Nat
 y : CycD
def CRow (w : World) (b o : Nat) (l : List CycA) : Prop := ∀ i (h : i < l.length), w.cell? ⟨b, o + i * 5, none⟩ = some (.slice l[i].pt l[i].y.tiles.length l[i].ct) ∧ w.cell? ⟨b, o + i * 5 + 1, none⟩ = some (.int .i64 l[i].y.i) ∧
 w.cell? ⟨b, o + i * 5 + 2, none⟩ = some (.int .i64 l[i].y.j) ∧ w.cell? ⟨b, o + i * 5 + 3, none⟩ = some (.int .i64 l[i].y.rounds) ∧ w.cell? ⟨b, o + i * 5 + 4, none⟩ = some (.bool l[i].y.mir) ∧ StrsAt w l[i].pt l[i].y.tiles
def CycsAt (w : World) (p : Option Addr) (l : List CycA) : Prop := l ≠ [] → ∃ b o, p = some ⟨b, o, none⟩ ∧ CRow w b o l
theorem CycsAt.below {w w' : World} {p : Option Addr} {l : List CycA} (h : CycsAt w p l) (hb : Below w.heap.size w w') : CycsAt w' p l := by
 intro hne
 obtain ⟨b, o, rfl, hr⟩ := h hne
 refine ⟨b, o, rfl, fun i hi => ?_⟩
 obtain ⟨h0, h1, h2, h3, h4, h5⟩ := hr i hi
 have hl := World.block_lt_of_cell? w _ h0
 rw [hb.cell (p := ⟨b, o + i * 5, none⟩) hl, hb.cell (p := ⟨b, o + i * 5 + 1, none⟩) hl, hb.cell (p := ⟨b, o + i * 5 + 2, none⟩) hl, hb.cell (p := ⟨b, o + i * 5 + 3, none⟩) hl, hb.cell (p := ⟨b, o + i * 5 + 4, none⟩) hl]
 exact ⟨h0, h1, h2, h3, h4, h5.below hb⟩
section
variable {K : Type} [Cox.OR K] (W : Cox.Tri K)
noncomputable def cors (y : CycD) : List CornW := (tws W y.tiles).map fun u => (u, y.i + y.j)
noncomputable def flat (ys : List CycD) : List CornW := ys.flatMap (cors W)
def FitsP (a b c : Int) (ws : List (List (Fin 3))) (gs : List (EdgeW × List (Fin 3))) (ys : List CycD) : Prop :=
 (∀ y, y ∈ ys → CycOk W a b c ws gs y) ∧ (flat W ys).Nodup ∧ (flat W ys).length = 3 * ws.length
noncomputable def fitsErr (a b c : Int) (ts : List ByteArray) (ps : List PairD) (ys : List CycD) : Int :=
 if nlErr W a b c ts ps ≠ 0 then nlErr W a b c ts ps else @ite _ (FitsP W a b c (tws W ts) (glu (eds W ps)) ys) (Classical.propDecidable _) 0 20
theorem flat_snoc (ys : List CycD) (y : CycD) : flat W (ys ++ [y]) = flat W ys ++ cors W y := by
 unfold flat
 rw [List.flatMap_append]
 simp
theorem flat_take {ys : List CycD} {k : Nat} (hk : k < ys.length) : flat W (ys.take (k + 1)) = flat W (ys.take k) ++ cors W ys[k] := by
 rw [List.take_succ_eq_append_getElem hk, flat_snoc]
theorem flat_prefix (ys : List CycD) (k : Nat) : ∃ r, flat W ys = flat W (ys.take k) ++ r := by
 refine ⟨flat W (ys.drop k), ?_⟩
 unfold flat
 rw [← List.flatMap_append, List.take_append_drop]
end
end Go.Proofs.Ytkndmibmmoikbaa
namespace Go.Proofs.Ytkndmibmmoikbaa
open Go.RowKit
open Cox (Tl)
theorem fits_door_no {Q : Ending → World → Prop} {tmps : Array Value} {p : Nat} {x y : Int} {w' : World} (ht : tmps[8]? = some (.pointer (some ⟨p, 0, none⟩))) (hc : w'.heap[p]? = some (.cells #[.int .i64 x] 30 (0, 0)))
 (hQ : ∀ w1, Below w'.heap.size w' w1 → Q (.returned (.int .i64 y)) (w1.setCell ⟨p, 0, none⟩ (.int .i64 y))) :
 bodyPostD Try.prog Try.f9 Q (.panic (refusal y)) ⟨tmps, [{ target := .fn (.func 19) #[.pointer (some ⟨p, 0, none⟩)], args := #[] }]⟩ w' := by
 refine leaves_cons (f := 19) (args := #[.pointer (some ⟨p, 0, none⟩)]) (by simp) (by simp [go_sem]) ?_
 refine (fits1_panicking p x y [] w' hc).mono ?_
 rintro e u' w'' ⟨rfl, rfl, w1, hb, rfl⟩
 have hpl := (Array.getElem?_eq_some_iff.1 hc).1
 have h1 := (hb.block p hpl).trans hc
 have h2 := cell_of h1 0
 simp at h2
 have h3 : (w1.setCell ⟨p, 0, none⟩ (.int .i64 y)).cell? ⟨p, 0, none⟩ = some (.int .i64 y) := World.cell?_setCell_same _ _ _ h2
 have ht2 : tmps.getD 8 undef = .pointer (some ⟨p, 0, none⟩) := by rw [Array.getD_eq_getD_getElem?, ht]; rfl
 simp [Leaves, settle, results, Try.results9, go_sem, ht, h3]
 exact hQ w1 hb
theorem fits_door_yes {Q : Ending → World → Prop} {tmps : Array Value} {p : Nat} {x : Int} {w' : World} (ht : tmps[8]? = some (.pointer (some ⟨p, 0, none⟩))) (hc : w'.heap[p]? = some (.cells #[.int .i64 x] 30 (0, 0)))
 (hQ : Q (.returned (.int .i64 0)) (w'.setCell ⟨p, 0, none⟩ (.int .i64 0))) :
 bodyPostD Try.prog Try.f9 Q .ret ⟨tmps, [{ target := .fn (.func 19) #[.pointer (some ⟨p, 0, none⟩)], args := #[] }]⟩ w' := by
 refine leaves_cons (f := 19) (args := #[.pointer (some ⟨p, 0, none⟩)]) (by simp) (by simp [go_sem]) ?_
 refine (fits1_idle p x w' hc).mono ?_
 rintro e u' w'' ⟨rfl, rfl, rfl⟩
 have h2 := cell_of hc 0
 simp at h2
 have h3 : (w'.setCell ⟨p, 0, none⟩ (.int .i64 0)).cell? ⟨p, 0, none⟩ = some (.int .i64 0) := World.cell?_setCell_same _ _ _ h2
 have ht2 : tmps.getD 8 undef = .pointer (some ⟨p, 0, none⟩) := by rw [Array.getD_eq_getD_getElem?, ht]; rfl
 simp [Leaves, settle, results, Try.results9, go_sem, ht, h3]
 exact hQ
end Go.Proofs.Ytkndmibmmoikbaa
namespace Go.Proofs.Ytkndmibmmoikbaa
open Go.RowKit
open Cox (Tl)
section
variable {K : Type} [Cox.OR K] (W : Cox.Tri K)
structure FSt (B : Nat) (a b c : Int) (L p F M MP Wk MC : Nat) (wi : World) (ws : List (List (Fin 3))) (xs : List Nat) (rv wv pv : Value) (gs : List (EdgeW × List (Fin 3))) (A : List (Fin 3) → Nat) (cs : List CornW) (D : Dict) (w : World) : Prop where
 ws_ : WSt W B a b c L p F M MP Wk w D ws xs rv wv pv gs A
 cst : CSt (Wk + 1) w D A MC cs
 hA : ∀ u, u ∈ ws → D u (A u)
 bel : Below B wi w
end
section
variable {K : Type} [Cox.OR K] {W : Cox.Tri K}
variable {B : Nat} {a b c : Int} {L p F M MP Wk MC : Nat} {wi w : World} {D : Dict} {ws : List (List (Fin 3))} {xs : List Nat} {rv wv pv : Value} {gs : List (EdgeW × List (Fin 3))} {A : List (Fin 3) → Nat} {cs : List CornW}
theorem FSt.below (h : FSt W B a b c L p F M MP Wk MC wi ws xs rv wv pv gs A cs D w) (hB : B ≤ w.heap.size) {w' : World} (hb : Below w.heap.size w w') : FSt W B a b c L p F M MP Wk MC wi ws xs rv wv pv gs A cs D w' :=
 ⟨h.ws_.below hb, h.cst.below hb, h.hA, h.bel.trans (hb.mono hB)⟩
theorem FSt.ext (h : FSt W B a b c L p F M MP Wk MC wi ws xs rv wv pv gs A cs D w) (hB : B ≤ w.heap.size) {D' : Dict} {w' : World} (hw : WSt W B a b c L p F M MP Wk w' D' ws xs rv wv pv gs A) (g : TExt w D w' D') : FSt W B a b c L p F M MP Wk MC wi ws xs rv wv pv gs A cs D' w' :=
 ⟨hw, h.cst.ext g, fun u hu => g.more _ _ (h.hA u hu), h.bel.trans (g.out.below (fun x hx => h.ws_.lst.lo.2.2.2 x hx) hB)⟩
theorem FSt.add (h : FSt W B a b c L p F M MP Wk MC wi ws xs rv wv pv gs A cs D w) (hB : B ≤ w.heap.size) {u : List (Fin 3)} (hu : u ∈ ws) {n : Int} (hm : (u, n) ∉ cs) :
 ∃ w1, (Instr.mapUpdate 66 (.map (some MC)) (.agg #[.pointer (some ⟨A u, 0, none⟩), .int .i64 n]) (.bool true)).run Try.prog w = .ok () w1 ∧ FSt W B a b c L p F M MP Wk MC wi ws xs rv wv pv gs A (cs ++ [(u, n)]) D w1 ∧ Out (fun b => b = MC) w w1 ∧ w1.heap.size = w.heap.size := by
 obtain ⟨w1, h1, h2, h3, h4⟩ := h.cst.add h.ws_.lst.td (h.hA u hu) hm
 have hlo := h.cst.lo
 have hWk := h.ws_.big
 have hL := h.ws_.lst.lo.1
 refine ⟨w1, h1, ⟨h.ws_.out h3 (fun x hx => by subst hx; exact ⟨by omega, h.cst.sep⟩), h2, h.hA, h.bel.trans (h3.below (fun x hx => by omega) hB)⟩, h3, h4⟩
end
section
variable {K : Type} [Cox.OR K] (W : Cox.Tri K)
structure FIn (B : Nat) (a b c : Int) (L p F M MP Wk MC : Nat) (wi : World) (ws : List (List (Fin 3))) (xs : List Nat) (rv wv pv : Value) (gs : List (EdgeW × List (Fin 3))) (A : List (Fin 3) → Nat) (g bx : Nat) (oc : Obj) (us : List (List (Fin 3))) (cs : List CornW) (D : Dict) (w : World) : Prop where
 fst : FSt W B a b c L p F M MP Wk MC wi ws xs rv wv pv gs A cs D w
 row : ∀ i u, us[i]? = some u → w.cell? ⟨g, i, none⟩ = some (.pointer (some ⟨A u, 0, none⟩))
 box : w.heap[bx]? = some oc
 sep : g ≠ MC ∧ bx ≠ MC
end
section
variable {K : Type} [Cox.OR K] {W : Cox.Tri K}
variable {B : Nat} {a b c : Int} {L p F M MP Wk MC : Nat} {wi w : World} {D : Dict} {ws : List (List (Fin 3))} {xs : List Nat} {rv wv pv : Value} {gs : List (EdgeW × List (Fin 3))} {A : List (Fin 3) → Nat} {cs : List CornW} {g bx : Nat} {oc : Obj} {us : List (List (Fin 3))}
theorem FSt.le (h : FSt W B a b c L p F M MP Wk MC wi ws xs rv wv pv gs A cs D w) : B ≤ w.heap.size := by
 have h1 := h.ws_.lst.lo.1
 have h2 := h.ws_.lst.Llt
 omega
theorem FIn.below (h : FIn W B a b c L p F M MP Wk MC wi ws xs rv wv pv gs A g bx oc us cs D w) {w' : World} (hb : Below w.heap.size w w') : FIn W B a b c L p F M MP Wk MC wi ws xs rv wv pv gs A g bx oc us cs D w' :=
 ⟨h.fst.below h.fst.le hb, fun i u hu => by
   have h0 := h.row i u hu
   rw [hb.cell (p := ⟨g, i, none⟩) (World.block_lt_of_cell? w _ h0)]; exact h0, (hb.block _ (Array.getElem?_eq_some_iff.1 h.box).1).trans h.box, h.sep⟩
theorem FIn.add (h : FIn W B a b c L p F M MP Wk MC wi ws xs rv wv pv gs A g bx oc us cs D w) {u : List (Fin 3)} (hu : u ∈ ws) {n : Int} (hm : (u, n) ∉ cs) :
 ∃ w1, (Instr.mapUpdate 66 (.map (some MC)) (.agg #[.pointer (some ⟨A u, 0, none⟩), .int .i64 n]) (.bool true)).run Try.prog w = .ok () w1 ∧ FIn W B a b c L p F M MP Wk MC wi ws xs rv wv pv gs A g bx oc us (cs ++ [(u, n)]) D w1 := by
 obtain ⟨w1, h1, h2, h3, h4⟩ := h.fst.add h.fst.le hu hm
 refine ⟨w1, h1, h2, fun i u hu => ?_, (h3.block _ (Array.getElem?_eq_some_iff.1 h.box).1 h.sep.2).trans h.box, h.sep⟩
 have h0 := h.row i u hu
 have hl := World.block_lt_of_cell? w _ h0
 rw [World.cell?_of_block (w := w) (h3.block g hl h.sep.1)]
 exact h0
theorem FIn.look (h : FIn W B a b c L p F M MP Wk MC wi ws xs rv wv pv gs A g bx oc us cs D w) {u : List (Fin 3)} (hu : u ∈ ws) {n : Int} :
 (Instr.lookup 66 (.map (some MC)) (.agg #[.pointer (some ⟨A u, 0, none⟩), .int .i64 n]) false).run Try.prog w = .ok (.bool (decide ((u, n) ∈ cs))) w := h.fst.cst.look h.fst.ws_.lst.td (h.fst.hA u hu)
end
section
variable {K : Type} [Cox.OR K] (W : Cox.Tri K)
theorem flat_dup {ys : List CycD} {k j : Nat} {y : CycD} {e : CornW} (hk : ys[k]? = some y) (hj : (cors W y)[j]? = some e) (hm : e ∈ flat W (ys.take k) ++ (cors W y).take j) : ¬ (flat W ys).Nodup := by
 obtain ⟨hkl, rfl⟩ := List.getElem?_eq_some_iff.1 hk
 obtain ⟨hjl, rfl⟩ := List.getElem?_eq_some_iff.1 hj
 obtain ⟨r, hr⟩ := flat_prefix W ys (k + 1)
 rw [flat_take W hkl] at hr
 intro hn
 have h2 : cors W ys[k] = (cors W ys[k]).take j ++ (cors W ys[k])[j] :: (cors W ys[k]).drop (j + 1) := by
  rw [← List.drop_eq_getElem_cons hjl, List.take_append_drop]
 rw [hr, List.nodup_append] at hn
 have h3 := hn.1
 rw [h2, ← List.append_assoc, List.nodup_append] at h3
 exact h3.2.2 _ hm _ (List.mem_cons_self ..) rfl
theorem cors_at {y : CycD} {j : Nat} {u : List (Fin 3)} (h : (tws W y.tiles)[j]? = some u) : (cors W y)[j]? = some (u, y.i + y.j) := by
 unfold cors
 rw [List.getElem?_map, h]; rfl
theorem cors_len (y : CycD) : (cors W y).length = y.tiles.length := by unfold cors; rw [List.length_map, tws_length]
end
theorem fits_any {K : Type} [Cox.OR K] (W : Cox.Tri K) (a b c : Int) (hord : chk a b c = 0 → Ords W a b c) (ts : List ByteArray) (ps : List PairD) (cys : List CycA) (pt pp pc : Option Addr) (ct cp cc : Nat) (w : World) (hts : StrsAt w pt ts) (hps : PairsAt w pp ps) (hcs : CycsAt w pc cys)
 (hlt : ts.length ≤ maxLen) (hlp : ps.length ≤ maxLen) (hlc : cys.length ≤ maxLen) (hs : ∀ s, s ∈ ts → s.size ≤ maxLen) (hs2 : ∀ p, p ∈ ps → p.1.tile.size ≤ maxLen ∧ p.2.tile.size ≤ maxLen) (hs3 : ∀ y, y ∈ cys → y.y.tiles.length ≤ maxLen ∧ ∀ s, s ∈ y.y.tiles → s.size ≤ maxLen) :
 Calls Try.prog 9 #[oval a b c, .slice pt ts.length ct, .slice pp ps.length cp, .slice pc cys.length cc] w fun e w' => e = .returned (.int .i64 (fitsErr W a b c ts ps (cys.map (·.y)))) ∧ Below w.heap.size w w' := by
 obtain ⟨Q, hQ⟩ : ∃ Q : Ending → World → Prop, Q = fun e w' => e = .returned (.int .i64 (fitsErr W a b c ts ps (cys.map (·.y)))) ∧ Below w.heap.size w w' := ⟨_, rfl⟩
 rw [← hQ]
 have hmf : ∀ (fn : Fn) (first cap : Array Value) (w : World), (Instr.makeFunc fn first cap).run Try.prog w = .ok (.func fn first cap) w := fun _ _ _ _ => rfl
 have hmk := @run_makeMap Try.prog
 obtain ⟨wi, hwi⟩ : ∃ wi, wi = (w.alloc (.cells #[.int .i64 a, .int .i64 b, .int .i64 c] 23)).alloc (.cells #[.int .i64 0] 30) := ⟨_, rfl⟩
 have hbi : Below w.heap.size w wi := by rw [hwi]; exact ((Below.refl _ _).alloc (Nat.le_refl _) _).alloc (by simp) _
 have hsz : wi.heap.size = w.heap.size + 2 := by rw [hwi]; simp
 have hec : wi.heap[w.heap.size + 1]? = some (.cells #[.int .i64 0] 30 (0, 0)) := by rw [hwi]; exact str_new _ _ _ _ (by simp)
 have NL : Hid (∀ w1, w1 = (w.alloc (.cells #[.int .i64 a, .int .i64 b, .int .i64 c] 23)).alloc (.cells #[.int .i64 0] 30) → Calls Try.prog 22 #[oval a b c, .slice pt ts.length ct, .slice pp ps.length cp] w1 (NLPost W a b c ts ps (.slice pp ps.length cp) wi)) := Hi (fun w1 h1 => by rw [h1, ← hwi]; exact newlist_any W a b c hord ts ps pt pp ct cp wi (hts.below hbi) (hps.below hbi) hlt hlp hs hs2)
 have HCS := Hi (hcs.below hbi)
 have HNO : Hid (∀ (tmps : Array Value) (y : Int) (w' : World), fitsErr W a b c ts ps (cys.map (·.y)) = y → tmps[8]? = some (.pointer (some ⟨w.heap.size + 1, 0, none⟩)) → Below wi.heap.size wi w' → bodyPostD Try.prog Try.f9 Q (.panic (refusal y)) ⟨tmps, [{ target := .fn (.func 19) #[.pointer (some ⟨w.heap.size + 1, 0, none⟩)], args := #[] }]⟩ w') := Hi (fun tmps y w' he ht hb => by
  refine fits_door_no ht ((hb.block _ (by omega)).trans hec) (fun w1 hb1 => ?_)
  rw [hQ]
  refine ⟨by rw [he], hbi.trans ((hb.mono (by omega)).trans ((hb1.mono (by have := hb.size; omega)).setCell (p := ⟨w.heap.size + 1, 0, none⟩) (by show w.heap.size ≤ w.heap.size + 1; omega) _))⟩)
 have HYES : Hid (∀ (tmps : Array Value) (w' : World), fitsErr W a b c ts ps (cys.map (·.y)) = 0 → tmps[8]? = some (.pointer (some ⟨w.heap.size + 1, 0, none⟩)) → Below wi.heap.size wi w' → bodyPostD Try.prog Try.f9 Q .ret ⟨tmps, [{ target := .fn (.func 19) #[.pointer (some ⟨w.heap.size + 1, 0, none⟩)], args := #[] }]⟩ (w'.setCell ⟨w.heap.size + 1, 0, none⟩ (.int .i64 0))) := Hi (fun tmps w' he ht hb => by
  refine fits_door_yes (x := 0) ht ?_ ?_
  · rw [heap_setCell', if_pos rfl, hb.block _ (by omega), hec]; rfl
  rw [hQ]
  refine ⟨by rw [he], hbi.trans (Below.setCell (Below.setCell (hb.mono (by omega : w.heap.size ≤ wi.heap.size)) (p := ⟨w.heap.size + 1, 0, none⟩) (by show w.heap.size ≤ w.heap.size + 1; omega) _) (p := ⟨w.heap.size + 1, 0, none⟩) (by show w.heap.size ≤ w.heap.size + 1; omega) _)⟩)
 by_cases h0 : nlErr W a b c ts ps = 0
 case neg =>
  have HF : Hid (fitsErr W a b c ts ps (cys.map (·.y)) = nlErr W a b c ts ps) := Hi (by unfold fitsErr; rw [if_pos h0])
  have H0 := Lib.hid h0
  unfold oval at *
  clear hord hts hps hcs hs hs2 hs3 hQ hbi hec hsz h0 HYES HCS
  go_enter_defers Try.func9, Try.ntmps9
  go_wp2_with (go_at_call 22; refine (NL.out _ rfl).mono ?_; rintro e w2 (⟨h0, rfl, hb⟩ | ⟨h0, _⟩); rotate_left; exact (H0.out h0).elim; have HB2 := Lib.hid hb; clear hb h0)
  exact HNO.out _ _ _ HF.out rfl HB2.out
 case pos =>
  have hform : form a b c ts ps = 0 := by
   by_cases hf : form a b c ts ps = 0
   · exact hf
   · rw [nlErr_form W hf] at h0; exact h0
  have hgood := form_good hform
  have hseq : PairSeq W (tws W ts) [] (eds W ps) := by
   by_cases h1 : Apart W (tws W ts)
   · rw [nlErr_apart W hform h1] at h0; cases h0
   · by_cases h2 : PairSeq W (tws W ts) [] (eds W ps)
     · exact h2
     · rw [nlErr_pair W hform h1 h2] at h0; cases h0
  have HO := Hi (hord hgood.1)
  have htl : (tws W ts).length = ts.length := tws_length W ts
  have HWL : Hid ((tws W ts).length ≤ 200) := Hi (by have := hgood.2.1; omega)
  have hel : (eds W ps).length ≤ 600 := by unfold eds; rw [List.length_map]; exact hgood.2.2.1
  have HFE : Hid (fitsErr W a b c ts ps (cys.map (·.y)) = @ite _ (FitsP W a b c (tws W ts) (glu (eds W ps)) (cys.map (·.y))) (Classical.propDecidable _) 0 20) := Hi (by unfold fitsErr; rw [if_neg (by simp [h0])])
  have NL2 : Hid (∀ w1, w1 = (w.alloc (.cells #[.int .i64 a, .int .i64 b, .int .i64 c] 23)).alloc (.cells #[.int .i64 0] 30) → Calls Try.prog 22 #[oval a b c, .slice pt ts.length ct, .slice pp ps.length cp] w1 fun e w' => ∃ L p F M D xs rv pv H A, e = .returned (.pointer (some ⟨L, 0, none⟩)) ∧ LSt W wi.heap.size a b c L p F M w' D (tws W ts) xs rv (.slice pp ps.length cp) pv ∧ w'.ownsRow H 114 4 pv (eds W ps).length (prow A (eds W ps)) ∧ (∀ u, u ∈ tws W ts → D u (A u)) ∧ Below wi.heap.size wi w') := Hi (fun w1 h1 => by
   refine (NL.out w1 h1).mono ?_
   rintro e w' (⟨h1, _⟩ | ⟨_, L, p, F, M, D, xs, rv, pv, H, A, rfl, hl, hrow, hA, _, hb⟩)
   · exact (h1 h0).elim
   · exact ⟨L, p, F, M, D, xs, rv, pv, H, A, rfl, hl, hrow, hA, hb⟩)
  clear NL hord hts hps hs hs2
  generalize tws W ts = ws at *
  generalize eds W ps = es at *
  generalize Value.slice pp ps.length cp = wv at *
  have HN2 : Hid (¬ FitsP W a b c ws (glu es) (cys.map (·.y)) → ∀ (tmps : Array Value) (w' : World), tmps[8]? = some (.pointer (some ⟨w.heap.size + 1, 0, none⟩)) → Below wi.heap.size wi w' → bodyPostD Try.prog Try.f9 Q (.panic (refusal 20)) ⟨tmps, [{ target := .fn (.func 19) #[.pointer (some ⟨w.heap.size + 1, 0, none⟩)], args := #[] }]⟩ w') := Hi (fun hn tmps w' ht hb => HNO.out tmps 20 w' (by rw [HFE.out, if_neg hn]) ht hb)
  have HY2 : Hid (FitsP W a b c ws (glu es) (cys.map (·.y)) → ∀ (tmps : Array Value) (w' : World), tmps[8]? = some (.pointer (some ⟨w.heap.size + 1, 0, none⟩)) → Below wi.heap.size wi w' → bodyPostD Try.prog Try.f9 Q .ret ⟨tmps, [{ target := .fn (.func 19) #[.pointer (some ⟨w.heap.size + 1, 0, none⟩)], args := #[] }]⟩ (w'.setCell ⟨w.heap.size + 1, 0, none⟩ (.int .i64 0))) := Hi (fun hn tmps w' ht hb => HYES.out tmps w' (by rw [HFE.out, if_pos hn]) ht hb)
  have HSEQ := Lib.hid hseq
  have H0 := Lib.hid h0
  have HS3 := Lib.hid hs3
  have HEL := Lib.hid hel
  obtain ⟨n, hn⟩ : ∃ n, n = cys.length := ⟨_, rfl⟩
  unfold maxLen at hlc
  have HWI := Hi (And.intro hbi hsz)
  have HEC := Lib.hid hec
  rw [← hn]
  unfold oval at *
  clear hgood hform h0 htl hseq hel hs3 hcs hQ hbi hec hsz HNO HYES HFE hlt hlp hwi
  go_enter_defers Try.func9, Try.ntmps9
  go_upto_region 3 with (first
   | (go_at_call 22; refine (NL2.out _ rfl).mono ?_; rintro e w2 ⟨L, p, F, M, D, xs, rv, pv, H, A, rfl, hl, hrow, hA, hb⟩; have HNW := Hi (newwalking_any W hl hrow hA HSEQ.out HEL.out); have HB2 := Hi (And.intro hb hA); clear hl hrow hA hb)
   | (go_at_call 21; refine HNW.out.mono ?_; rintro e w3 ⟨rfl, hw3, hb3⟩; have H3 := Hi (And.intro hw3 hb3); clear hw3 hb3))
  clear NL2 HNW
  have hs3 := H3.out.2.size
  have F0 : Hid (FSt W wi.heap.size a b c L p F M w2.heap.size (w2.heap.size + 1) w3.heap.size wi ws xs rv wv pv (glu es) A (flat W ((cys.map (·.y)).take 0)) D (w3.alloc (.map #[] 0))) := Hi (by
   have hb := (Below.refl w3.heap.size w3).alloc (Nat.le_refl _) (.map #[] 0)
   have h2 := HB2.out.1.size
   refine ⟨H3.out.1.below hb, ?_, HB2.out.2, HB2.out.1.trans ((H3.out.2.mono h2).trans (hb.mono (by omega)))⟩
   exact CSt.start w3 D A (fun x hx => by obtain ⟨u, hu⟩ := hx; exact H3.out.1.lst.td.lt hu) (by have := H3.out.1.lt; omega))
  go_upto_region 4 with fail
  generalize w3.alloc (.map #[] 0) = wm at *
  generalize w3.heap.size = MC at *
  generalize w2.heap.size = MP at *
  clear H3 HB2 hs3
  have HWK : Hid (MP < MC ∧ MP + 1 < MC) := Hi (by have h1 := F0.out.cst.lo; omega)
  go_wp2_with fail
  go_loopw [25] (fun t25 wr => ∃ (k : Nat) (D' : Dict), t25 = .int .i64 (k : Nat) ∧ k ≤ cys.length ∧ Hid ((∀ y, y ∈ (cys.map (·.y)).take k → CycOk W a b c ws (glu es) y) ∧ FSt W wi.heap.size a b c L p F M MP (MP + 1) MC wi ws xs rv wv pv (glu es) A (flat W ((cys.map (·.y)).take k)) D' wr)) (fun t _ => cys.length - (intOf t).toNat)
  case atStart => exact ⟨0, D, rfl, by omega, Lib.hid ⟨by simp, F0.out⟩⟩
  case round =>
   obtain ⟨k, D', rfl, hk, HK⟩ := hrel
   by_cases hlt : k < cys.length
   · obtain ⟨b0, o0, hpc, hr⟩ := (HCS.out.below HK.out.2.bel) (by intro h; rw [h] at hlt; simp at hlt)
     obtain ⟨q0, q1, q2, q3, q4, _⟩ := hr k hlt
     clear hr
     obtain ⟨b9, o9, h9, hri⟩ := HCS.out (by intro h; rw [h] at hlt; simp at hlt)
     have q5 := (hri k hlt).2.2.2.2.2
     clear hri h9
     subst hpc
     have i1 : (k : Int) < (cys.length : Int) := by omega
     have i2 : (0 : Int) ≤ (k : Int) := by omega
     have HLT := Lib.hid hlt
     have HC3 := Hi (HS3.out _ (List.getElem_mem hlt))
     have Q5 := Lib.hid q5
     clear q5
     generalize hck : cys[k] = ck at *
     obtain ⟨pk, ck, yk⟩ := ck
     simp only at q0 q1 q2 q3 q4
     go_upto_region 7 with fail
     have hbx := (Below.refl wr.heap.size wr).alloc (Nat.le_refl _) (.cells #[.slice pk yk.tiles.length ck, .int .i64 yk.i, .int .i64 yk.j, .int .i64 yk.rounds, .bool yk.mir] 48)
     obtain ⟨oc, hoc⟩ : ∃ oc : Obj, oc = .cells #[.slice pk yk.tiles.length ck, .int .i64 yk.i, .int .i64 yk.j, .int .i64 yk.rounds, .bool yk.mir] 48 (0, 0) := ⟨_, rfl⟩
     have hob : (wr.alloc (.cells #[.slice pk yk.tiles.length ck, .int .i64 yk.i, .int .i64 yk.j, .int .i64 yk.rounds, .bool yk.mir] 48)).heap[wr.heap.size]? = some oc := by rw [hoc]; exact str_new _ _ _ _ rfl
     have hsb : (wr.alloc (.cells #[.slice pk yk.tiles.length ck, .int .i64 yk.i, .int .i64 yk.j, .int .i64 yk.rounds, .bool yk.mir] 48)).heap.size = wr.heap.size + 1 := by simp
     generalize wr.alloc (.cells #[.slice pk yk.tiles.length ck, .int .i64 yk.i, .int .i64 yk.j, .int .i64 yk.rounds, .bool yk.mir] 48) = wb at *
     have HB := Hi (HK.out.2.below HK.out.2.le hbx)
     have HKB := Hi (show MC < wr.heap.size from HK.out.2.cst.map.lt)
     have HYM : Hid ((cys.map (·.y))[k]? = some yk) := Hi (by rw [List.getElem?_map, List.getElem?_eq_getElem HLT.out]; exact congrArg (fun c : CycA => some c.y) hck)
     have RT := Hi (right_any HO.out HB.out.ws_ wi rfl HB.out.bel pk ck Q5.out HC3.out.1 HWL.out HC3.out.2)
     have b0 : wb.cell? ⟨wr.heap.size, 0, none⟩ = some (.slice pk yk.tiles.length ck) := by rw [cell_of (hoc ▸ hob)]; rfl
     have b1 : wb.cell? ⟨wr.heap.size, 1, none⟩ = some (.int .i64 yk.i) := by rw [cell_of (hoc ▸ hob)]; rfl
     have b2 : wb.cell? ⟨wr.heap.size, 2, none⟩ = some (.int .i64 yk.j) := by rw [cell_of (hoc ▸ hob)]; rfl
     have b3 : wb.cell? ⟨wr.heap.size, 3, none⟩ = some (.int .i64 yk.rounds) := by rw [cell_of (hoc ▸ hob)]; rfl
     have b4 : wb.cell? ⟨wr.heap.size, 4, none⟩ = some (.bool yk.mir) := by rw [cell_of (hoc ▸ hob)]; rfl
     have HOB := Hi (And.intro hob (And.intro hoc hsb))
     unfold cval at RT
     clear q0 q1 q2 q3 q4 hbx hob hoc hsb hck
     by_cases hok : CycOk W a b c ws (glu es) yk
     case neg =>
      have HNF := Hi (HN2.out (fun hf => hok (hf.1 _ (List.mem_of_getElem? HYM.out))))
      have HOK := Lib.hid hok
      clear hok
      go_wp2_with (go_at_call 23; refine RT.out.mono ?_; rintro e w5 (⟨h1, rfl, hb⟩ | ⟨h1, _⟩); rotate_left; exact (HOK.out h1).elim; have HB5 := Lib.hid hb; clear hb h1)
      exact HNF.out _ _ rfl (HB.out.bel.trans HB5.out)
     case pos =>
      have HOK := Lib.hid hok
      clear hok
      go_upto_region 8 with (go_at_call 23; refine RT.out.mono ?_; rintro e w5 (⟨h1, _⟩ | ⟨_, D2, ys, g, cap, rfl, hw5, hx5, hrow, hyl, hgd, hat⟩); exact (h1 HOK.out).elim; have H5 := Hi (And.intro hw5 (And.intro hx5 (And.intro hrow (And.intro hyl (And.intro hgd hat))))); clear hw5 hx5 hrow hyl hgd hat)
      have FI : Hid (FIn W wi.heap.size a b c L p F M MP (MP + 1) MC wi ws xs rv wv pv (glu es) A g wr.heap.size oc (tws W yk.tiles) (flat W ((cys.map (·.y)).take k) ++ (cors W yk).take 0) D2 w5) := Hi (by
       obtain ⟨hw5, hx5, hrow, hyl, hgd, hat⟩ := H5.out
       have hf := HB.out.ext HB.out.le hw5 hx5
       have hlo := owns_lt hrow (g := g) rfl
       have hkb := HKB.out
       have hsb := HOB.out.2.2
       refine ⟨by rw [List.take_zero, List.append_nil]; exact hf, fun i u hu => ?_, (hx5.keep (Array.getElem?_eq_some_iff.1 HOB.out.1).1 ?_).1.trans HOB.out.1, by omega, by omega⟩
       · obtain ⟨hi, rfl⟩ := List.getElem?_eq_some_iff.1 hu
         have hi2 : i < ys.length := by rw [tws_length] at hi; omega
         obtain ⟨g', cap', hv, hcell⟩ := owns_at hrow (i := i) (by simpa using hi2)
         have hgg : g = g' := by simp at hv; exact hv.1
         have hin := HOK.out.2.1.2.1 _ (List.getElem_mem hi)
         have : ys[i] = A (tws W yk.tiles)[i] := hw5.lst.td.addr_inj (hat i hi hi2) (hf.hA _ hin)
         rw [hgg, hcell, List.getElem_map, this]; rfl
       · rintro ⟨u, hu⟩
         have := HK.out.2.ws_.lst.td.lt hu
         omega)
      have hyl : yk.tiles.length ≤ 200 := by
       have h1 := HOK.out.1.2.2.2.2
       have h2 := HWL.out
       omega
      have HS := Hi (show 0 ≤ yk.i + yk.j ∧ yk.i + yk.j ≤ 4 by
       have h1 := HOK.out.1
       obtain ⟨⟨h2, h3⟩, ⟨h4, h5⟩, _⟩ := h1
       omega)
      clear H5 RT b0 b1 b2 b3 b4 HKB
      generalize wr.heap.size = bx at *
      go_wp2_with fail
      go_loopw [33] (fun t33 wj => ∃ (j : Nat), t33 = .int .i64 (j : Nat) ∧ j ≤ yk.tiles.length ∧ Hid (FIn W wi.heap.size a b c L p F M MP (MP + 1) MC wi ws xs rv wv pv (glu es) A g bx oc (tws W yk.tiles) (flat W ((cys.map (·.y)).take k) ++ (cors W yk).take j) D2 wj)) (fun t _ => yk.tiles.length - (intOf t).toNat)
      case atStart => exact ⟨0, rfl, by omega, FI⟩
      case round =>
       obtain ⟨j, rfl, hj, HJ⟩ := hrel
       by_cases hjl : j < yk.tiles.length
       · have ju : (j : Int) < (yk.tiles.length : Int) := by omega
         have jp : (0 : Int) ≤ (j : Int) := by omega
         have HJL := Lib.hid hjl
         obtain ⟨u, hu⟩ : ∃ u, (tws W yk.tiles)[j]? = some u := ⟨_, List.getElem?_eq_getElem (by rw [tws_length]; exact hjl)⟩
         have HU := Hi (And.intro hu (HOK.out.2.1.2.1 _ (List.mem_of_getElem? hu)))
         have q0 := HJ.out.row j u hu
         have q1 : wr.cell? ⟨bx, 1, none⟩ = some (.int .i64 yk.i) := by rw [cell_of (HOB.out.2.1 ▸ HJ.out.box)]; rfl
         have q2 : wr.cell? ⟨bx, 2, none⟩ = some (.int .i64 yk.j) := by rw [cell_of (HOB.out.2.1 ▸ HJ.out.box)]; rfl
         have hsum : IntKind.i64.wrap (yk.i + yk.j) = yk.i + yk.j := by have := HS.out; rw [IntKind.wrap_i64]; omega
         clear hu
         by_cases hm : (u, yk.i + yk.j) ∈ flat W ((cys.map (·.y)).take k) ++ (cors W yk).take j
         case pos =>
          have HNF := Hi (HN2.out (fun hf => flat_dup W HYM.out (cors_at W HU.out.1) hm hf.2.1))
          have hdm := decide_eq_true hm
          clear hm
          go_upto_region 11 with fail
          have hja := (Below.refl wr.heap.size wr).alloc (Nat.le_refl _) (.cells #[.pointer (some ⟨A u, 0, none⟩), .int .i64 (yk.i + yk.j)] 71)
          have hjc := str_new wr #[.pointer (some ⟨A u, 0, none⟩), .int .i64 (yk.i + yk.j)] 71 _ rfl
          generalize wr.alloc (.cells #[.pointer (some ⟨A u, 0, none⟩), .int .i64 (yk.i + yk.j)] 71) = wa at *
          have hlk := (HJ.out.below hja).look HU.out.2 (n := yk.i + yk.j)
          rw [hdm] at hlk
          have a0 : wa.cell? ⟨wr.heap.size, 0, none⟩ = some (.pointer (some ⟨A u, 0, none⟩)) := by rw [cell_of hjc]; rfl
          have a1 : wa.cell? ⟨wr.heap.size, 1, none⟩ = some (.int .i64 (yk.i + yk.j)) := by rw [cell_of hjc]; rfl
          have HBW := Hi (HJ.out.below hja).fst.bel
          clear hja hjc q0 q1 q2
          go_wp2_with (go_at_call 24; refine (need_no 20 _).mono ?_; rintro e w6 ⟨rfl, rfl⟩)
          exact HNF.out _ _ rfl HBW.out
         case neg =>
          have hdm := decide_eq_false hm
          have HMN := Lib.hid hm
          clear hm
          go_upto_region 11 with fail
          have hja := (Below.refl wr.heap.size wr).alloc (Nat.le_refl _) (.cells #[.pointer (some ⟨A u, 0, none⟩), .int .i64 (yk.i + yk.j)] 71)
          have hjc := str_new wr #[.pointer (some ⟨A u, 0, none⟩), .int .i64 (yk.i + yk.j)] 71 _ rfl
          generalize wr.alloc (.cells #[.pointer (some ⟨A u, 0, none⟩), .int .i64 (yk.i + yk.j)] 71) = wa at *
          have hlk := (HJ.out.below hja).look HU.out.2 (n := yk.i + yk.j)
          rw [hdm] at hlk
          have a0 : wa.cell? ⟨wr.heap.size, 0, none⟩ = some (.pointer (some ⟨A u, 0, none⟩)) := by rw [cell_of hjc]; rfl
          have a1 : wa.cell? ⟨wr.heap.size, 1, none⟩ = some (.int .i64 (yk.i + yk.j)) := by rw [cell_of hjc]; rfl
          obtain ⟨w1, hup, hin⟩ := (HJ.out.below hja).add HU.out.2 HMN.out
          have HIN := Lib.hid hin
          clear hja hjc q0 q1 q2 hin
          go_wp2_with (go_at_call 24; refine (need_yes 20 _).mono ?_; rintro e w6 ⟨rfl, rfl⟩)
          go_roundw
          case rel =>
           refine ⟨j + 1, by go_num, by omega, Lib.hid ?_⟩
           have e1 : (cors W yk).take (j + 1) = (cors W yk).take j ++ [(u, yk.i + yk.j)] := by
            have h1 := cors_at W HU.out.1
            obtain ⟨h2, h3⟩ := List.getElem?_eq_some_iff.1 h1
            rw [List.take_succ_eq_append_getElem h2, h3]
           rw [e1, ← List.append_assoc]
           exact HIN.out
          case measure => simp [intOf]; omega
       · have hje : j = yk.tiles.length := by omega
         subst hje
         have ju : ¬ (yk.tiles.length : Int) < (yk.tiles.length : Int) := by omega
         go_wp2_with fail
         go_roundw
         case rel =>
          refine ⟨k + 1, D2, by go_num, by omega, Lib.hid ⟨?_, ?_⟩⟩
          · intro y hy
            have hkl := (List.getElem?_eq_some_iff.1 HYM.out).1
            rw [List.take_succ_eq_append_getElem hkl, (List.getElem?_eq_some_iff.1 HYM.out).2] at hy
            rcases List.mem_append.1 hy with hy | hy
            · exact HK.out.1 y hy
            · simp at hy; rw [hy]; exact HOK.out
          · have hkl := (List.getElem?_eq_some_iff.1 HYM.out).1
            have h1 := HJ.out.fst
            rw [← cors_len W yk, List.take_length] at h1
            rw [flat_take W hkl, (List.getElem?_eq_some_iff.1 HYM.out).2]
            exact h1
         case measure => simp [intOf]; omega
   · have hke : k = cys.length := by omega
     subst hke
     have i1 : ¬ (cys.length : Int) < (cys.length : Int) := by omega
     go_upto_region 15 with fail
     obtain ⟨es9, clock, hmc, hes⟩ := HK.out.2.cst.count
     have hcl : (cys.map (·.y)).take cys.length = cys.map (·.y) := List.take_of_length_le (by simp)
     have HK2 := HK.out
     rw [hcl] at HK2 hes
     have HK := Lib.hid HK2
     clear HK2 hcl
     have hxl : xs.length = ws.length := HK.out.2.ws_.lst.len
     obtain ⟨pq, cq, hrv⟩ : ∃ pq cap, rv = .slice pq xs.length cap := by
      rcases HK.out.2.ws_.lst.row.2 with ⟨h1, h2⟩ | ⟨g, cap, cur, hv, _⟩
      · exact ⟨none, 0, by rw [h1, h2]⟩
      · exact ⟨_, cap, hv⟩
     have hwl := HWL.out
     have hfl : (flat W (cys.map (·.y))).length < 1000000 ∨ 1000000 ≤ (flat W (cys.map (·.y))).length := by omega
     have k0 : wr.cell? ⟨MP + 1, 0, none⟩ = some (.pointer (some ⟨L, 0, none⟩)) := by rw [cell_of HK.out.2.ws_.head]; rfl
     have k1 : wr.cell? ⟨L, 1, none⟩ = some (.slice pq xs.length cq) := by rw [cell_of HK.out.2.ws_.lst.head, ← hrv]; rfl
     have m1 : IntKind.i64.wrap (3 * (xs.length : Int)) = 3 * (xs.length : Int) := by rw [IntKind.wrap_i64]; omega
     have HBEL := Lib.hid HK.out.2.bel
     have HNOD := Lib.hid HK.out.2.cst.nodup
     refine region_quiet_tail 12 (by kernel_rfl) (by kernel_rfl) ?_
     simp only [List.take_succ_cons, List.take_zero, List.drop_succ_cons, List.drop_zero]
     intro wd hwd
     have HWD := Hi (show Below wi.heap.size wi wd by rw [hwd]; exact HBEL.out.drew)
     rw [← cell_drew_own, ← hwd] at k0 k1
     have hmd : wd.heap[MC]? = some (.map es9 clock) := by rw [hwd]; exact hmc
     clear hwd hmc
     have hlen : (Builtin.len_ #[66] 3 #[.map (some MC)]).run Try.prog wd = .ok (.int .i64 (es9.size : Nat)) wd := by
      simp [Builtin.len_, run_underlying Try.underlying66, MapKept.run_getObj_map hmd, goInt, Result.andThen]
     by_cases hfl : (flat W (cys.map (·.y))).length = 3 * ws.length
     case neg =>
      have b1 : ((es9.size : Int) == 3 * (xs.length : Int)) = false := by
       have : (es9.size : Int) ≠ 3 * (xs.length : Int) := by rw [hes, hxl]; omega
       simpa using this
      have HNF := Hi (HN2.out (fun hf => hfl hf.2.2))
      clear hes hxl hfl
      repeat (first | go_big_quiet_skip | (go_big_quiet_want; go_big_quiet_op; first | go_big_quiet_on | (apply Exists.intro; refine ⟨?_, ?_⟩; (fail); go_big_quiet_on)))
      refine wpQuiet_nil ?_
      go_wp2_with (go_at_call 24; refine (need_no 20 _).mono ?_; rintro e w6 ⟨rfl, rfl⟩)
      exact HNF.out _ _ rfl HWD.out
     case pos =>
      have b1 : ((es9.size : Int) == 3 * (xs.length : Int)) = true := by
       have : (es9.size : Int) = 3 * (xs.length : Int) := by rw [hes, hxl]; omega
       simpa using this
      have HF := Hi (HY2.out ⟨fun y hy => HK.out.1 y hy, HNOD.out, hfl⟩)
      have hed := (HWD.out.block _ (by have := HWI.out.2; omega : w.heap.size + 1 < wi.heap.size)).trans HEC.out
      have e0 := cell_of hed 0
      have e1 := free_of hed 0
      simp at e0
      clear hes hxl hfl
      repeat (first | go_big_quiet_skip | (go_big_quiet_want; go_big_quiet_op; first | go_big_quiet_on | (apply Exists.intro; refine ⟨?_, ?_⟩; (fail); go_big_quiet_on)))
      refine wpQuiet_nil ?_
      go_wp2_with (go_at_call 24; refine (need_yes 20 _).mono ?_; rintro e w6 ⟨rfl, rfl⟩)
      exact HF.out _ _ rfl HWD.out
end Go.Proofs.Ytkndmibmmoikbaa
namespace Go.Proofs.Ytkndmibmmoikbaa
open Go.RowKit
open Cox (Tl)
def IntsAt (w : World) (p : Option Addr) (l : List Int) : Prop := l ≠ [] → ∃ b o, p = some ⟨b, o, none⟩ ∧ ∀ i (h : i < l.length), w.cell? ⟨b, o + i, none⟩ = some (.int .i64 l[i])
theorem IntsAt.below {w w' : World} {p : Option Addr} {l : List Int} (h : IntsAt w p l) (hb : Below w.heap.size w w') : IntsAt w' p l := by
 intro hne
 obtain ⟨b, o, rfl, hr⟩ := h hne
 refine ⟨b, o, rfl, fun i hi => ?_⟩
 have h0 := hr i hi
 rw [hb.cell (p := ⟨b, o + i, none⟩)]
 · exact h0
 · exact World.block_lt_of_cell? w _ h0
theorem alt_succ (s t : Fin 3) (k : Nat) : alt s t (k + 1) = alt t s k := by
 unfold alt
 rcases Nat.mod_two_eq_zero_or_one k with h | h
 · rw [if_neg (by omega), if_pos h]
 · rw [if_pos (by omega), if_neg (by omega)]
end Go.Proofs.Ytkndmibmmoikbaa
namespace Go.Proofs.Ytkndmibmmoikbaa
open Go.RowKit
open Cox (Tl)
def RW {K : Type} [Cox.OR K] (W : Cox.Tri K) (a b c : Int) : Prop := ∀ (l : List (Fin 3)), l.length ≤ 780 → ∀ w, Calls Try.prog 38 #[oval a b c, .string (wb l)] w fun e w' => e = .returned (.string (wb (Cox.nf W l))) ∧ Below w.heap.size w w'
end Go.Proofs.Ytkndmibmmoikbaa
namespace Go.Proofs.Ytkndmibmmoikbaa
open Go.RowKit
open Cox (Tl)
theorem info3 : Option.map (fun i => (i.zero, i.size, i.bytes)) (Try.prog.info? 3) = some (some (.int .i64 0), 1, 8) := by kernel_rfl
theorem cell_stays {w1 w2 : World} (hb : Below w1.heap.size w1 w2) {p : Addr} {v : Value} (h : w1.cell? p = some v) : w2.cell? p = some v := (hb.cell (World.block_lt_of_cell? w1 _ h)).trans h
end Go.Proofs.Ytkndmibmmoikbaa
