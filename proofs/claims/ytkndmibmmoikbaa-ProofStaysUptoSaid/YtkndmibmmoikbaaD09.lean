/- Chapter 10: Ref2 Ref3 Ref4 Pf0 Pf1. -/
import Derived.Test.YtkndmibmmoikbaaD08
import Derived.Deep.RegionLaw
import Derived.Deep.Cut
import Derived.BigQuiet
set_option linter.all false
set_option maxRecDepth 100000
set_option maxHeartbeats 16000000
namespace Go.Proofs.Ytkndmibmmoikbaa
open Go.RowKit
open Cox (Tl)
theorem grown_undrew {w w1 : World} {r : Option Nat} (h : w.drew.grownBy w1 r) : w.grownBy w1 r := ⟨h.os, h.tape, h.output, h.size, h.block⟩
def GSaid (a b c : Int) (m : Fin 3 → Fin 3 → Nat) (N f : Nat) : Prop := ∀ (B G : Nat) (w : World) (st : List Tl) (x : Nat) (s : Fin 3) (st' : List Tl) (y : Nat), GS a b c B G w st → x < st.length →
 Cox.step m f st x s = some (st', y) → st'.length ≤ N → Calls Try.prog 75 #[.pointer (some ⟨G, 0, none⟩), .int .i64 x, .int .i64 (s.val : Int)] w fun e w' =>
  e = .returned (.int .i64 y) ∧ y < st'.length ∧ GS a b c B G w' st' ∧ Below B w w'
theorem gstep_new (a b c : Int) (m : Fin 3 → Fin 3 → Nat) (N f : Nat) (hm : ∀ i j : Fin 3, m i j < 100) (ho : ∀ i j : Fin 3, i ≠ j → (if (i.val : Int) + (j.val : Int) = 1 then a else if (i.val : Int) + (j.val : Int) = 3 then b else c) = (m i j : Int)) (hN : N ≤ 1000000000000) (hf : f < 1000000) (ih : GSaid a b c m N f) (B G : Nat) (w : World) (st : List Tl) (hg : GS a b c B G w st) (x : Nat) (s : Fin 3) (nd : Tl) (hx : st[x]? = some nd) (hy : nd.to s = none)
 (st' : List Tl) (y : Nat) (hstep : Cox.step m (f + 1) st x s = some (st', y)) (hlen : st'.length ≤ N) :
 Calls Try.prog 75 #[.pointer (some ⟨G, 0, none⟩), .int .i64 x, .int .i64 (s.val : Int)] w fun e w' => e = .returned (.int .i64 y) ∧ y < st'.length ∧ GS a b c B G w' st' ∧ Below B w w' := by
 obtain ⟨R, cap, cur, h⟩ := hg
 have HL := Hi (fun w => letter_all s w)
 have c0 := h.slice
 have c1 := h.to hx s
 rw [hy] at c1
 simp only [gi] at c1
 have c2 := h.len hx
 have c3 := h.word hx
 have hxl : x < st.length := (List.getElem?_eq_some_iff.1 hx).1
 have hs := s.isLt
 have i1 : (x : Int) < (st.length : Int) := by omega
 have i2 : (0 : Int) ≤ (x : Int) := by omega
 have i3 : (s.val : Int) < 3 := by omega
 have i4 : (0 : Int) ≤ (s.val : Int) := by omega
 have hlev : nd.lev < 1000000000000 := by
  have h1 := h.lev x nd hx
  have h2 := step_len m (f + 1) _ _ _ _ _ hstep
  omega
 have hwl : (wb nd.word).size ≤ 1000000 := by
  rw [wb_size]
  have := (step_none hstep hx hy).1
  omega
 have hz1 : (wb [s]).size = 1 := by rw [wb_size]; rfl
 have hsz : ¬ 9223372036854775807 < (wb nd.word).size + 1 := by omega
 have hap := wb_append nd.word [s]
 have H := Lib.hid h
 have HX := Lib.hid hx
 have hwv : IntKind.i64.wrap ((nd.lev : Int) + 1) = (nd.lev : Int) + 1 := by rw [IntKind.wrap_i64]; omega
 obtain ⟨hyeq, S, hrd, hs0, hs3, hmono⟩ : y = st.length ∧ ∃ S : Nat → List Tl, (∀ t : Fin 3, Cox.round m f (Cox.step m f) (S t.val) x st.length s t = some (S (t.val + 1))) ∧ S 0 = Cox.link (st ++ [Cox.fresh nd s]) x st.length s ∧ S 3 = st' ∧ ∀ t : Fin 3, (S (t.val + 1)).length ≤ N := by
  obtain ⟨_, hyeq, sa, sb, ra, rb, rc⟩ := step_none hstep hx hy
  have h2 := round_len (step_len m f) rb
  have h3 := round_len (step_len m f) rc
  refine ⟨hyeq, fun k => if k = 0 then Cox.link (st ++ [Cox.fresh nd s]) x st.length s else if k = 1 then sa else if k = 2 then sb else st', ?_, rfl, rfl, ?_⟩
  · intro t
    match t with
    | 0 => exact ra
    | 1 => exact rb
    | 2 => exact rc
  · intro t
    match t with
    | 0 => show sa.length ≤ N; omega
    | 1 => show sb.length ≤ N; omega
    | 2 => show st'.length ≤ N; omega
 have HRD := Lib.hid hrd
 have HS0 := Lib.hid hs0
 have HS3 := Lib.hid hs3
 have HMONO := Lib.hid hmono
 have HM := Lib.hid hm
 have HO := Lib.hid ho
 have IH := Lib.hid ih
 have HLEV := Hi (show nd.lev + 1 ≤ st.length by have := h.lev x nd hx; omega)
 clear hrd hs0 hs3 hmono hm ho
 subst hyeq
 have hgrowth : Hid (st.length + 1 ≤ N) := Hi (by
  obtain ⟨_, _, sa, sb, ra, rb, rc⟩ := step_none hstep hx hy
  have h1 := round_len (step_len m f) ra
  have h2 := round_len (step_len m f) rb
  have h3 := round_len (step_len m f) rc
  rw [link_len, List.length_append] at h1
  simp only [List.length_cons, List.length_nil] at h1
  omega)
 clear h hx hs hstep ih hwl
 generalize wb [s] = D at *
 obtain ⟨Wn, hWn⟩ : ∃ Wn, Wn = wb (nd.word ++ [s]) := ⟨_, rfl⟩
 rw [← hWn] at hap
 have HWN := Lib.hid hWn
 clear hWn
 generalize wb nd.word = W0 at *
 have HB0 := Lib.hid H.out.gB
 have HB1 : B ≤ w.heap.size := by have := H.out.glt; have := H.out.gB; omega
 go_enter Try.func75, Try.ntmps75
 go_upto_region 4 with fail
 go_cut [8] from 43 (fun n8 wx => ∃ B8 : Nat, n8 = .pointer (some ⟨B8, 0, none⟩) ∧ Hid (wx.heap[B8]? = some (.cells #[.int .i64 ((nd.lev : Int) + 1), .int .i64 (-1), .int .i64 (-1), .int .i64 (-1), .bool false, .bool false, .bool false, .string Wn] 131 (0, 0)) ∧ w.heap.size ≤ B8 ∧ Below w.heap.size w wx))
 case first =>
  go_region_held3 (fun w' => w'.cell? ⟨G, 3, none⟩ = some (.slice (some ⟨R, 0, none⟩) st.length cap) ∧ w'.cell? ⟨R, x * 8, none⟩ = some (.int .i64 nd.lev) ∧ w'.cell? ⟨R, x * 8 + 7, none⟩ = some (.string W0))
   (first | exact ⟨c0, c2, c3⟩ | exact ⟨cell_alloc c0 _, cell_alloc c2 _, cell_alloc c3 _⟩ | exact ⟨cell_alloc (cell_alloc c0 _) _, cell_alloc (cell_alloc c2 _) _, cell_alloc (cell_alloc c3 _) _⟩ | go_keep)
   (first | (go_at_call 82; with_reducible refine (HL.out _).mono ?_; rintro e w2 ⟨rfl, rfl⟩))
  all_goals
   go_wp2_with fail
   go_meet
   refine ⟨_, rfl, Lib.hid ⟨?_, ?_, ?_⟩⟩
   · first
      | exact str_new _ _ _ _ (by simp)
      | (refine (((Below.refl (w.heap.size + 1) _).alloc (by simp) _).block _ (by simp)).trans ?_; exact str_new _ _ _ _ rfl)
   · simp
   · first
      | exact ((Below.refl _ _).alloc (Nat.le_refl _) _).alloc (by simp) _
      | exact (((Below.refl _ _).alloc (Nat.le_refl _) _).alloc (by simp) _).drew
 case rest =>
  obtain ⟨B8, rfl, HC⟩ := hcut
  have h8 := HC.out.1
  have hG := H.out.below HC.out.2.2
  have hlt8 := hG.glt
  have k0 := hG.slice
  have HH := Lib.hid hG
  clear hG c0 c1 c2 c3
  have d1 : wc.cell? ⟨B8, 1 + s.val, none⟩ = some (.int .i64 (-1)) := by
   rw [cell_of h8]
   match s with
   | 0 => rfl
   | 1 => rfl
   | 2 => rfl
  have d2 : wc.cell? ⟨B8, 4 + s.val, none⟩ = some (.bool false) := by
   rw [cell_of h8]
   match s with
   | 0 => rfl
   | 1 => rfl
   | 2 => rfl
  have e1 := free_of h8 (1 + s.val)
  have e2 := free_of h8 (4 + s.val)
  have H8 := Lib.hid h8
  clear h8
  go_wp2_with fail
  have hfin : Hid (GRep a b c B G R cap cur ((wc.setCell ⟨B8, 1 + s.val, none⟩ (.int .i64 x)).setCell ⟨B8, 4 + s.val, none⟩ (.bool true)) st ∧
   ((wc.setCell ⟨B8, 1 + s.val, none⟩ (.int .i64 x)).setCell ⟨B8, 4 + s.val, none⟩ (.bool true)).heap[B8]? = some (.cells (gcells (newTl nd s x)) 131 (0, 0)) ∧
   Below w.heap.size w ((wc.setCell ⟨B8, 1 + s.val, none⟩ (.int .i64 x)).setCell ⟨B8, 4 + s.val, none⟩ (.bool true))) := by
   have h8 := H8.out
   have hle := HC.out.2.1
   have hh := fun k => heap_setCell wc B8 (1 + s.val) (.int .i64 x) k h8
   have hh0 := hh B8
   rw [if_pos rfl] at hh0
   have hh2 := fun k => heap_setCell (wc.setCell ⟨B8, 1 + s.val, none⟩ (.int .i64 x)) B8 (4 + s.val) (.bool true) k hh0
   have hG0 := H.out.glt
   have hR0 := H.out.rlt
   refine Lib.hid ⟨HH.out.stay ?_ ?_, ?_, (HC.out.2.2.setCell hle _).setCell hle _⟩
   · rw [hh2, if_neg (by omega), hh, if_neg (by omega)]
   · rw [hh2, if_neg (by omega), hh, if_neg (by omega)]
   · rw [hh2, if_pos rfl, gcells_new, HWN.out]
  generalize (wc.setCell ⟨B8, 1 + s.val, none⟩ (.int .i64 x)).setCell ⟨B8, 4 + s.val, none⟩ (.bool true) = W2 at *
  clear HC HH H8 d1 d2 e1 e2 k0 hlt8
  have k0 := hfin.out.1.slice
  have b8 := hfin.out.2.1
  obtain ⟨i81, hi, hz0, hz1, hz2⟩ := info_parts info81
  have hone : ∀ u ∈ (gcells (newTl nd s x)).toList, u.oneCell' = true := by
   have hgi : ∀ o, (gi o).oneCell' = true := fun o => by cases o <;> rfl
   intro u hu
   simp only [gcells, List.mem_cons, List.not_mem_nil, or_false] at hu
   rcases hu with rfl | rfl | rfl | rfl | rfl | rfl | rfl | rfl <;> first | rfl | exact hgi _
  obtain ⟨v0, v1, v2, v3, v4, v5, v6, v7, hv⟩ : ∃ v0 v1 v2 v3 v4 v5 v6 v7, gcells (newTl nd s x) = #[v0, v1, v2, v3, v4, v5, v6, v7] := ⟨_, _, _, _, _, _, _, _, rfl⟩
  rw [hv] at hone b8
  have HV := Lib.hid hv
  have HONE := Lib.hid hone
  clear hone hv
  have q0 : W2.cell? ⟨B8, 0, none⟩ = some v0 := cell_of b8 0
  have q1 : W2.cell? ⟨B8, 1, none⟩ = some v1 := cell_of b8 1
  have q2 : W2.cell? ⟨B8, 2, none⟩ = some v2 := cell_of b8 2
  have q3 : W2.cell? ⟨B8, 3, none⟩ = some v3 := cell_of b8 3
  have q4 : W2.cell? ⟨B8, 4, none⟩ = some v4 := cell_of b8 4
  have q5 : W2.cell? ⟨B8, 5, none⟩ = some v5 := cell_of b8 5
  have q6 : W2.cell? ⟨B8, 6, none⟩ = some v6 := cell_of b8 6
  have q7 : W2.cell? ⟨B8, 7, none⟩ = some v7 := cell_of b8 7
  have hnl : st.length + 1 ≤ N := hgrowth.out
  have p1 : st.length + 1 ≤ maxLen := by unfold maxLen; omega
  have p2 : (st.length + 1) * 56 ≤ 140737488355328 := by omega
  have p3 : ∀ o : Obj, B ≤ (W2.alloc o).heap.size := fun o => by
   have a1 := hfin.out.1.gB
   have a2 := hfin.out.1.glt
   rw [World.size_alloc]; omega
  clear b8
  have nn := cell_alloc k0 (.cells #[v0, v1, v2, v3, v4, v5, v6, v7] 131)
  go_cut [] from 72 (fun wx => Hid (GS a b c B G wx (st ++ [newTl nd s x]) ∧ Below B w wx))
  case first =>
   go_region_law ((refine step_append_lies _ ?_ (.tmp 76) (.tmp 78) 132 ?_ B 131 i81 _ 8 56 Try.underlying132 hi hz0 hz1 hz2 ?_ ?_ (.slice (some ⟨R, 0, none⟩) st.length cap) st.length (cur.toList.take (st.length * 8)) ?_ ?_ ⟨W2.heap.size, 0, none⟩ 1 1 (#[v0, v1, v2, v3, v4, v5, v6, v7] : Array Value).toList ?_ ?_ ?_ HONE.out ?_ p1 p2 ?_ (W2.heap.size + 1) ?_ ?_; rfl; rfl; rfl; omega; rfl; exact hfin.out.1.owns_alloc _; rfl; rfl; exact World.news_of_block (heap_alloc_new _ _); omega; exact p3 _; simp; intro g cap' w1 hown hgrow hat hlt; have HGW := Hi (grown_undrew hgrow); have HOWN := Lib.hid hown; have HAT := Lib.hid hat; clear hgrow hown hat hlt; have z1 : w1.cell? ⟨G, 3, none⟩ = some (.slice (some ⟨R, 0, none⟩) st.length cap) := cell_of (hfin.out.1.app_cell HGW.out) 3; have z2 := free_of (hfin.out.1.app_cell HGW.out) 3))
   all_goals
    go_wp2_with fail
    go_meet
    have hfin2 := hfin.out.1.app_done (n := newTl nd s x) ?_ HLEV.out (by rw [HV.out]; exact HOWN.out) HGW.out (g := g) (by rw [World.size_alloc]; exact HAT.out)
    · exact Lib.hid ⟨hfin2.1, (hfin.out.2.2.mono HB1).trans hfin2.2⟩
    · intro i
      unfold newTl
      simp only [Cox.upd]
      split
      · exact .inr ⟨x, rfl, by omega⟩
      · exact .inl rfl
  case rest =>
   obtain ⟨R2, cap2, cur2, h2⟩ := hcut.out.1
   have HB2 := Lib.hid hcut.out.2
   have hx2 : (st ++ [newTl nd s x])[x]? = some nd := by rw [List.getElem?_append_left hxl]; exact HX.out
   have k1 : wc.cell? ⟨G, 3, none⟩ = some (.slice (some ⟨R2, 0, none⟩) (st.length + 1) cap2) := by
    have := h2.slice
    simpa using this
   have k2 := h2.to hx2 s
   have k3 := h2.free (x * 8 + 1 + s.val)
   have h3 := h2.setTo (k := x) (y := st.length) s (by simp; omega) (by simp)
   rw [link_new hxl, ← HS0.out] at h3
   have hlt0 : st.length < (S 0).length := by rw [HS0.out, link_len]; simp
   have HG0 : Hid (GS a b c B G (wc.setCell ⟨R2, x * 8 + 1 + s.val, none⟩ (.int .i64 st.length)) (S 0) ∧ Below B w (wc.setCell ⟨R2, x * 8 + 1 + s.val, none⟩ (.int .i64 st.length)) ∧ st.length < (S 0).length) :=
    Lib.hid ⟨⟨_, _, _, h3⟩, HB2.out.setCell h2.rB _, hlt0⟩
   have i6 : (x : Int) < ((st.length : Int) + 1) := by omega
   clear hcut h2 hx2 h3 hlt0 hfin nn k0 q0 q1 q2 q3 q4 q5 q6 q7 HV HONE p1 p2 p3 hi hz0 hz1 hz2 HB2
   go_wp2_with fail
   go_loopw [9] (fun t wr => ∃ k : Nat, k ≤ 3 ∧ t = .int .i64 k ∧ Hid (GS a b c B G wr (S k) ∧ Below B w wr ∧ st.length < (S k).length)) (fun t _ => 3 - (intOf t).toNat)
   case atStart => exact ⟨0, by omega, rfl, HG0.out⟩
   case round =>
    obtain ⟨k, hk, rfl, HK⟩ := hrel
    by_cases hlt : k < 3
    · obtain ⟨t, rfl⟩ : ∃ t : Fin 3, k = t.val := ⟨⟨k, hlt⟩, rfl⟩
      have t1 : (t.val : Int) < 3 := by omega
      have t2 : (0 : Int) ≤ (t.val : Int) := by omega
      obtain ⟨Rk, capk, curk, hgk⟩ := HK.out.1
      have k0 := hgk.slice
      have o0 := hgk.o0
      have o1 := hgk.o1
      have o2 := hgk.o2
      have HGK := Lib.hid hgk
      clear hgk hlt hk
      rcases Cox.round_cases (HRD.out t) with ⟨h1, h2⟩ | ⟨h1, h2, h3⟩ | ⟨h1, q, h2, h3⟩
      · have H2 := Lib.hid h2
        have hts : ((t.val : Int) != (s.val : Int)) = false := by rw [h1]; simp
        clear h1 h2
        go_wp2_with fail
        go_roundw
        case rel => exact ⟨t.val + 1, by omega, by go_num, Hi (by rw [show S (t.val + 1) = S t.val from H2.out]; exact HK.out)⟩
        case measure => simp [intOf]; omega
      · have hne : ¬ (t.val : Int) = (s.val : Int) := fun e => h1 (Fin.ext (by omega))
        have hts : ((t.val : Int) != (s.val : Int)) = true := by simpa using hne
        have hbt := HO.out s t (fun e => h1 e.symm)
        rw [h2] at hbt
        have BT := Hi (fun w => between_any a b c (s.val : Int) (t.val : Int) ⟨i4, by omega⟩ ⟨t2, by omega⟩ w)
        rw [hbt] at BT
        have H3 := Lib.hid h3
        unfold oval at BT
        clear h1 h2 h3 hne hbt
        go_wp2_with (go_at_call 45; refine (BT.out _).mono ?_; rintro e w2 ⟨rfl, hb⟩)
        have HB := Lib.hid hb
        clear hb
        go_wp2_with fail
        go_roundw
        case rel => exact ⟨t.val + 1, by omega, by go_num, Hi (by rw [show S (t.val + 1) = S t.val from H3.out]; exact ⟨⟨_, _, _, HGK.out.below HB.out⟩, HK.out.2.1.trans (HB.out.mono (by have := HGK.out.gB; have := HGK.out.glt; omega)), HK.out.2.2⟩)⟩
        case measure => simp [intOf]; omega
      · have hne : ¬ (t.val : Int) = (s.val : Int) := fun e => h1 (Fin.ext (by omega))
        have hts : ((t.val : Int) != (s.val : Int)) = true := by simpa using hne
        have hbt := HO.out s t (fun e => h1 e.symm)
        have hq99 : q < 99 := by have := HM.out s t; omega
        rw [h2, Int.natCast_add] at hbt
        have BT := Hi (fun w => between_any a b c (s.val : Int) (t.val : Int) ⟨i4, by omega⟩ ⟨t2, by omega⟩ w)
        rw [hbt] at BT
        obtain ⟨o, hlo, ho2⟩ : ∃ o, Cox.lowest (S t.val) x t s q = some o ∧ ((o = none ∧ S (t.val + 1) = S t.val) ∨ ∃ v st2 z nz ny, o = some v ∧ Cox.climb (Cox.step m f) q (S t.val) v (Cox.nx t s q) (Cox.nx s t q) = some (st2, z) ∧
         (Cox.link st2 z st.length t)[z]? = some nz ∧ (Cox.link st2 z st.length t)[st.length]? = some ny ∧ z ≠ st.length ∧ nz.word.length ≤ f ∧
         ((Cox.lex (nz.word ++ [t]) ny.word = true ∧ S (t.val + 1) = (Cox.link st2 z st.length t).modify st.length fun n => { n with word := nz.word ++ [t] }) ∨ (Cox.lex (nz.word ++ [t]) ny.word = false ∧ S (t.val + 1) = Cox.link st2 z st.length t))) := by
         rcases h3 with ⟨hl, hS⟩ | ⟨v, st2, z, nz, ny, e1, e2, e3, e4, e5, e6, e7⟩
         · exact ⟨none, hl, .inl ⟨rfl, hS⟩⟩
         · refine ⟨some v, e1, .inr ⟨v, st2, z, nz, ny, rfl, ?_, e3, e4, e5, e6, e7⟩⟩
           have g1 : (if (q + 1) % 2 = 0 then s else t) = Cox.nx t s q := by
            unfold Cox.nx
            rcases Nat.mod_two_eq_zero_or_one q with hp | hp
            · rw [if_neg (by omega), if_pos hp]
            · rw [if_pos (by omega), if_neg (by omega)]
           have g2 : (if (q + 1) % 2 = 0 then t else s) = Cox.nx s t q := by
            unfold Cox.nx
            rcases Nat.mod_two_eq_zero_or_one q with hp | hp
            · rw [if_neg (by omega), if_pos hp]
            · rw [if_pos (by omega), if_neg (by omega)]
           rw [g1, g2] at e2
           exact e2
        unfold oval at BT
        have HLO := Lib.hid hlo
        have HO2 := Lib.hid ho2
        have hq0 : (((q : Int) + ((1 : Nat) : Int)) == 0) = false := by
         have : ¬ ((q : Int) + ((1 : Nat) : Int)) = 0 := by omega
         simpa using this
        clear h1 h2 h3 hne hbt hlo ho2
        go_wp2_with (go_at_call 45; refine (BT.out _).mono ?_; rintro e w2 ⟨rfl, hb⟩)
        have HB := Lib.hid hb
        clear hb o0 o1 o2
        have hgk2 := HGK.out.below HB.out
        have k0 := hgk2.slice
        have HGK2 := Lib.hid hgk2
        have hxk : x < (S t.val).length := Nat.lt_trans hxl HK.out.2.2
        clear hgk2
        go_wp2_with fail
        go_loopw [11, 12, 13] (fun vv aa kk wr => wr = w2 ∧ ∃ (j v' : Nat), j ≤ q ∧ kk = .int .i64 j ∧ vv = .int .i64 v' ∧ Hid ((aa = .bool true ∧ Cox.lowest (S t.val) v' (Cox.nx t s j) (Cox.nx s t j) (q - j) = some o ∧ v' < (S t.val).length) ∨ (aa = .bool false ∧ o = none))) (fun _ _ kk _ => q - (intOf kk).toNat)
        case atStart => exact ⟨rfl, 0, x, by omega, rfl, rfl, Hi (.inl ⟨rfl, HLO.out, hxk⟩)⟩
        case round =>
         obtain ⟨rfl, j, v', hj, rfl, rfl, HJ⟩ := hrel
         rcases HJ.out with ⟨rfl, hl, hv⟩ | ⟨rfl, hon⟩
         · by_cases hjq : j < q
           · obtain ⟨r, hr⟩ : ∃ r, q - j = r + 1 := ⟨q - j - 1, by omega⟩
             rw [hr] at hl
             obtain ⟨nd', hn', hd'⟩ := lowest_succ hl
             have hoc : (if j % 2 = 0 then (t.val : Int) else (s.val : Int)) = ((Cox.nx t s j).val : Int) := by
              unfold Cox.nx; split <;> rfl
             have OT := Hi (fun w => other_any (t.val : Int) (s.val : Int) j w)
             rw [hoc] at OT
             have d0 := HGK2.out.down hn' (Cox.nx t s j)
             have d1 := HGK2.out.to hn' (Cox.nx t s j)
             have d2 : ((Cox.nx t s j).val : Int) < 3 := by have := (Cox.nx t s j).isLt; omega
             have d3 : (0 : Int) ≤ ((Cox.nx t s j).val : Int) := by omega
             have d4 : (v' : Int) < ((S t.val).length : Int) := by omega
             have d5 : (0 : Int) ≤ (v' : Int) := by omega
             have d6 : (j : Int) < (q : Int) := by omega
             clear hoc HJ hl
             rcases hd' with ⟨hf, hon⟩ | ⟨hf, x', hx', hl'⟩
             · rw [hf] at d0
               have HON := Lib.hid hon
               clear hf hon d1 hn'
               generalize (Cox.nx t s j).val = cv at *
               go_wp2_with (go_at_call 83; refine (OT.out _).mono ?_; rintro e w3 ⟨rfl, rfl⟩)
               go_roundw
               case rel =>
                repeat apply Exists.intro
                refine ⟨?_, rfl⟩
                exact ⟨trivial, j + 1, v', by omega, by go_num, rfl, Hi (.inr ⟨rfl, HON.out⟩)⟩
               case measure => simp [intOf]; omega
             · rw [hf] at d0
               rw [hx'] at d1
               simp only [gi] at d1
               have hx'l := HGK2.out.closed v' nd' _ x' hn' hx'
               have hr2 : q - (j + 1) = r := by omega
               have HL2 : Hid (Cox.lowest (S t.val) x' (Cox.nx t s (j + 1)) (Cox.nx s t (j + 1)) (q - (j + 1)) = some o) := Hi (by rw [hr2, Cox.nx_succ, Cox.nx_succ]; exact hl')
               clear hf hx' hl' hn' hr2
               generalize (Cox.nx t s j).val = cv at *
               go_wp2_with (go_at_call 83; refine (OT.out _).mono ?_; rintro e w3 ⟨rfl, rfl⟩)
               go_roundw
               case rel =>
                repeat apply Exists.intro
                refine ⟨?_, rfl⟩
                exact ⟨trivial, j + 1, x', by omega, by go_num, rfl, Hi (.inl ⟨rfl, HL2.out, hx'l⟩)⟩
               case measure => simp [intOf]; omega
           · have hjq' : j = q := by omega
             subst hjq'
             have hl0 : some (some v') = some o := by
              have h9 : j - j = 0 := by omega
              rw [h9] at hl
              exact hl
             obtain ⟨v, st2, z, nz, ny, hov, e2, e3, e4, e5, e6, e7⟩ := (by
              rcases HO2.out with ⟨h8, _⟩ | h8
              · rw [h8] at hl0; cases hl0
              · exact h8 : ∃ v st2 z nz ny, o = some v ∧ Cox.climb (Cox.step m f) j (S t.val) v (Cox.nx t s j) (Cox.nx s t j) = some (st2, z) ∧
                (Cox.link st2 z st.length t)[z]? = some nz ∧ (Cox.link st2 z st.length t)[st.length]? = some ny ∧ z ≠ st.length ∧ nz.word.length ≤ f ∧
                ((Cox.lex (nz.word ++ [t]) ny.word = true ∧ S (t.val + 1) = (Cox.link st2 z st.length t).modify st.length fun n => { n with word := nz.word ++ [t] }) ∨ (Cox.lex (nz.word ++ [t]) ny.word = false ∧ S (t.val + 1) = Cox.link st2 z st.length t)))
             have hvv : v' = v := by
              rw [hov] at hl0
              simpa using hl0
             subst hvv
             have hst2 : st2.length ≤ N := by
              have q1 := HMONO.out t
              rcases e7 with ⟨_, h8⟩ | ⟨_, h8⟩
              · rw [h8, List.length_modify, link_len] at q1; exact q1
              · rw [h8, link_len] at q1; exact q1
             have HE := Hi (And.intro e3 (And.intro e4 (And.intro e5 (And.intro e6 (And.intro e7 hst2)))))
             have HC2 := Lib.hid e2
             have HV := Lib.hid hv
             clear hl hl0 hov e2 e3 e4 e5 e6 e7 hst2 hv HJ
             have hlx : st.length < (S t.val).length := HK.out.2.2
             have hjn : ¬ (j : Int) < (j : Int) := by omega
             have HG2 : Hid (GS a b c B G wr (S t.val) ∧ Below B w wr) := Lib.hid ⟨⟨_, _, _, HGK2.out⟩, HK.out.2.1.trans (HB.out.mono (by have := HGK.out.gB; have := HGK.out.glt; omega))⟩
             go_wp2_with fail
             go_loopw [11, 15] (fun vv kk wq => ∃ (i zj : Nat) (stj : List Tl), i ≤ j ∧ kk = .int .i64 ((i : Int) + 1) ∧ vv = .int .i64 zj ∧ Hid (Cox.climb (Cox.step m f) (j - i) stj zj (Cox.nx t s (j - i)) (Cox.nx s t (j - i)) = some (st2, z) ∧ GS a b c B G wq stj ∧ Below B w wq ∧ zj < stj.length ∧ st.length < stj.length)) (fun _ kk _ => j + 1 - (intOf kk).toNat)
             case atStart => exact ⟨0, v', _, by omega, rfl, rfl, Lib.hid ⟨HC2.out, HG2.out.1, HG2.out.2, HV.out, hlx⟩⟩
             case round =>
              obtain ⟨i, zj, stj, hi, rfl, rfl, HQ⟩ := hrel
              by_cases hij : i < j
              · obtain ⟨r, hr⟩ : ∃ r, j - i = r + 1 := ⟨j - i - 1, by omega⟩
                have hcl := HQ.out.1
                rw [hr] at hcl
                obtain ⟨sj1, x1, hs1, hc1⟩ := Cox.climb_succ hcl
                have hlN : sj1.length ≤ N := Nat.le_trans (climb_len (step_len m f) _ _ _ _ _ _ hc1) HE.out.2.2.2.2.2
                have CS := IH.out B G
                have hg1 : sj1.length ≥ stj.length := step_len m f _ _ _ _ _ hs1
                have OT : Hid (∀ n' : Int, n' = ((r + 1 : Nat) : Int) → ∀ w, Calls Try.prog 83 #[.int .i64 (t.val : Int), .int .i64 (s.val : Int), .int .i64 n'] w fun e w' => e = .returned (.int .i64 ((Cox.nx t s (r + 1)).val : Int)) ∧ w' = w) := Hi (by
                 rintro n' rfl w
                 have h9 := other_any (t.val : Int) (s.val : Int) (r + 1) w
                 have hoc : (if (r + 1) % 2 = 0 then (t.val : Int) else (s.val : Int)) = ((Cox.nx t s (r + 1)).val : Int) := by
                  unfold Cox.nx; split <;> rfl
                 rw [hoc] at h9
                 exact h9)
                have CS2 := Hi (CS _ stj zj (Cox.nx t s (r + 1)) sj1 x1 HQ.out.2.1 HQ.out.2.2.2.1 hs1 hlN)
                have HC1 : Hid (Cox.climb (Cox.step m f) (j - (i + 1)) sj1 x1 (Cox.nx t s (j - (i + 1))) (Cox.nx s t (j - (i + 1))) = some (st2, z)) := Hi (by
                 have h9 : j - (i + 1) = r := by omega
                 rw [h9]
                 rw [Cox.nx_succ, Cox.nx_succ] at hc1
                 exact hc1)
                have HLEN := Hi (show st.length < sj1.length by have := HQ.out.2.2.2.2; omega)
                have j1 : ((i : Int) + 1) < ((j : Int) + 1) := by omega
                clear hcl hs1 hc1 hlN CS hg1
                generalize ((Cox.nx t s (r + 1)).val : Int) = cv at *
                have HMK := Hi (show (j : Int) + 1 - ((i : Int) + 1) = ((r + 1 : Nat) : Int) by omega)
                go_wp2_with (first | (go_at_call 83; refine (OT.out _ HMK.out _).mono ?_; rintro e w3 ⟨rfl, rfl⟩) | (go_at_call 75; refine CS2.out.mono ?_; rintro e w4 ⟨rfl, hx4, hg4, hb4⟩))
                refine ⟨⟨i + 1, x1, sj1, by omega, by go_num, rfl, Lib.hid ⟨HC1.out, hg4, HQ.out.2.2.1.trans hb4, hx4, HLEN.out⟩⟩, ?_⟩
                simp [intOf]; omega
              · have hij' : i = j := by omega
                subst hij'
                have hcl := HQ.out.1
                have h9 : i - i = 0 := by omega
                rw [h9] at hcl
                simp only [Cox.climb, Option.some.injEq, Prod.mk.injEq] at hcl
                obtain ⟨rfl, rfl⟩ := hcl
                obtain ⟨R3, cap3, cur3, h5⟩ := HQ.out.2.1
                have zl := HQ.out.2.2.2.1
                have yl := HQ.out.2.2.2.2
                have hzy := HE.out.2.2.1
                obtain ⟨nz0, hz0⟩ : ∃ nd, stj[zj]? = some nd := ⟨_, List.getElem?_eq_getElem zl⟩
                have k0 := h5.slice
                have k1 := h5.to hz0 t
                have k2 := h5.free (zj * 8 + 1 + t.val)
                have y1 : (zj : Int) < (stj.length : Int) := by omega
                have y2 : (0 : Int) ≤ (zj : Int) := by omega
                have y3 : (st.length : Int) < (stj.length : Int) := by omega
                have y4 : (0 : Int) ≤ (st.length : Int) := by omega
                have hii : ¬ ((i : Int) + 1) < ((i : Int) + 1) := by omega
                have H6 := Hi (h5.setTo (k := zj) (y := st.length) t zl yl)
                have HRB := Lib.hid h5.rB
                clear h5 hz0 h9
                go_upto_region 31 with fail
                have HB3 := Hi (HQ.out.2.2.1.setCell (p := ⟨R3, zj * 8 + 1 + t.val, none⟩) HRB.out (.int .i64 st.length))
                clear k0 k1 k2
                generalize World.setCell _ ⟨R3, zj * 8 + 1 + t.val, none⟩ (.int .i64 st.length) = W3 at *
                obtain ⟨ny0, hn1⟩ : ∃ nd, (stj.modify zj fun n => { n with to := Cox.upd n.to t (some st.length) })[st.length]? = some nd := ⟨_, List.getElem?_eq_getElem (by rw [List.length_modify]; exact yl)⟩
                have k0 : W3.cell? ⟨G, 3, none⟩ = some (.slice (some ⟨R3, 0, none⟩) stj.length cap3) := by
                 have := H6.out.slice
                 rwa [List.length_modify] at this
                have k1 := H6.out.to hn1 t
                have k2 := H6.out.free (st.length * 8 + 1 + t.val)
                have H7 := Hi (H6.out.setTo (k := st.length) (y := zj) t (by rw [List.length_modify]; exact yl) (by rw [List.length_modify]; exact zl))
                clear hn1 H6
                go_upto_region 32 with fail
                have HB4 := Hi (HB3.out.setCell (p := ⟨R3, st.length * 8 + 1 + t.val, none⟩) HRB.out (.int .i64 zj))
                clear k0 k1 k2 HB3
                generalize World.setCell _ ⟨R3, st.length * 8 + 1 + t.val, none⟩ (.int .i64 zj) = W4 at *
                obtain ⟨ny1, hn1⟩ : ∃ nd, ((stj.modify zj fun n => { n with to := Cox.upd n.to t (some st.length) }).modify st.length fun n => { n with to := Cox.upd n.to t (some zj) })[st.length]? = some nd := ⟨_, List.getElem?_eq_getElem (by rw [List.length_modify, List.length_modify]; exact yl)⟩
                have k0 : W4.cell? ⟨G, 3, none⟩ = some (.slice (some ⟨R3, 0, none⟩) stj.length cap3) := by
                 have := H7.out.slice
                 rwa [List.length_modify, List.length_modify] at this
                have k1 := H7.out.down hn1 t
                have k2 := H7.out.free (st.length * 8 + 4 + t.val)
                have H8 := Hi (H7.out.setDown (k := st.length) t (by rw [List.length_modify, List.length_modify]; exact yl))
                clear hn1 H7
                go_upto_region 33 with fail
                have HB5 := Hi (HB4.out.setCell (p := ⟨R3, st.length * 8 + 4 + t.val, none⟩) HRB.out (.bool true))
                clear k0 k1 k2 HB4
                generalize World.setCell _ ⟨R3, st.length * 8 + 4 + t.val, none⟩ (.bool true) = W5 at *
                rw [link_eq] at H8
                have k0 : W5.cell? ⟨G, 3, none⟩ = some (.slice (some ⟨R3, 0, none⟩) stj.length cap3) := by
                 have := H8.out.slice
                 rwa [link_len] at this
                have k1 := H8.out.word HE.out.1
                have k2 := H8.out.word HE.out.2.1
                have LT := Hi (fun w => letter_all t w)
                have z1 : (wb [t]).size = 1 := by rw [wb_size]; rfl
                have z2 : ¬ 9223372036854775807 < (wb nz.word).size + 1 := by rw [wb_size]; have := HE.out.2.2.2.1; omega
                have hap4 := wb_append nz.word [t]
                obtain ⟨Wn4, hWn4⟩ : ∃ q, q = wb (nz.word ++ [t]) := ⟨_, rfl⟩
                rw [← hWn4] at hap4
                have HWN4 := Lib.hid hWn4
                clear hWn4
                obtain ⟨Wz, hWz⟩ : ∃ q, q = wb nz.word := ⟨_, rfl⟩
                rw [← hWz] at hap4 z2 k1
                obtain ⟨Wy, hWy⟩ : ∃ q, q = wb ny.word := ⟨_, rfl⟩
                rw [← hWy] at k2
                have HWY := Lib.hid hWy
                clear hWy hWz
                generalize wb [t] = D4 at *
                go_region_held3 (fun w' => w'.cell? ⟨G, 3, none⟩ = some (.slice (some ⟨R3, 0, none⟩) stj.length cap3) ∧ w'.cell? ⟨R3, zj * 8 + 7, none⟩ = some (.string Wz))
                 (first | exact ⟨k0, k1⟩ | exact ⟨cell_alloc k0 _, cell_alloc k1 _⟩ | go_keep)
                 (first | (go_at_call 82; with_reducible refine (LT.out _).mono ?_; rintro e w6 ⟨rfl, rfl⟩))
                all_goals
                 have HB6 := Hi (HB5.out.trans ((Below.refl B W5).alloc (by have := H8.out.gB; have := H8.out.glt; omega) (.cells #[.int .u8 (t.val : Int)] 5)).drew)
                 have H9 : Hid (GRep a b c B G R3 cap3 _ (W5.alloc (.cells #[.int .u8 (t.val : Int)] 5)).drew (Cox.link stj zj st.length t)) := Hi ((H8.out.below ((Below.refl _ _).alloc (Nat.le_refl _) (.cells #[.int .u8 (t.val : Int)] 5))).stay rfl rfl)
                 clear k0 k1 k2 HB5
                 generalize World.drew (World.alloc W5 (.cells #[.int .u8 (t.val : Int)] 5)) = W6 at *
                 have k0 : W6.cell? ⟨G, 3, none⟩ = some (.slice (some ⟨R3, 0, none⟩) stj.length cap3) := by
                  have := H9.out.slice
                  rwa [link_len] at this
                 have k2 : W6.cell? ⟨R3, st.length * 8 + 7, none⟩ = some (.string Wy) := by
                  rw [HWY.out]; exact H9.out.word HE.out.2.1
                 have k3 := H9.out.free (st.length * 8 + 7)
                 rcases HE.out.2.2.2.2.1 with ⟨hl, hS⟩ | ⟨hl, hS⟩
                 · rw [← less_wb, ← HWN4.out, ← HWY.out] at hl
                   have hfinr : Hid (GS a b c B G (W6.setCell ⟨R3, st.length * 8 + 7, none⟩ (.string Wn4)) (S (t.val + 1)) ∧ Below B w (W6.setCell ⟨R3, st.length * 8 + 7, none⟩ (.string Wn4)) ∧ st.length < (S (t.val + 1)).length) := Hi (by
                    rw [hS, List.length_modify, link_len, HWN4.out]
                    exact ⟨⟨_, _, _, H9.out.setWord _ (by rw [link_len]; exact yl)⟩, HB6.out.setCell HRB.out _, yl⟩)
                   clear hS
                   go_wp2_with fail
                   go_roundw
                   case rel => exact ⟨t.val + 1, by omega, by go_num, hfinr⟩
                   case measure => simp [intOf]; omega
                 · rw [← less_wb, ← HWN4.out, ← HWY.out] at hl
                   have hfinr : Hid (GS a b c B G W6 (S (t.val + 1)) ∧ Below B w W6 ∧ st.length < (S (t.val + 1)).length) := Hi (by
                    rw [hS, link_len]
                    exact ⟨⟨_, _, _, H9.out⟩, HB6.out, yl⟩)
                   clear hS
                   go_wp2_with fail
                   go_roundw
                   case rel => exact ⟨t.val + 1, by omega, by go_num, hfinr⟩
                   case measure => simp [intOf]; omega
         · have HON := Lib.hid hon
           have HST : Hid (S (t.val + 1) = S t.val) := by
            rcases HO2.out with ⟨_, h8⟩ | ⟨_, _, _, _, _, h8, _⟩
            · exact Lib.hid h8
            · rw [hon] at h8; cases h8
           clear hon HJ
           have hfinr : Hid (GS a b c B G wr (S (t.val + 1)) ∧ Below B w wr ∧ st.length < (S (t.val + 1)).length) :=
            Hi (by rw [HST.out]; exact ⟨⟨_, _, _, HGK2.out⟩, HK.out.2.1.trans (HB.out.mono (by have := HGK.out.gB; have := HGK.out.glt; omega)), HK.out.2.2⟩)
           have hcj : (j : Int) < (q : Int) ∨ ¬ (j : Int) < (q : Int) := by omega
           rcases hcj with hjq | hjq
           all_goals
            go_wp2_with fail
            go_roundw
            case rel => exact ⟨t.val + 1, by omega, by go_num, hfinr⟩
            case measure => simp [intOf]; omega
    · have hk3 : k = 3 := by omega
      subst hk3
      have hfinr : Hid (st.length < st'.length ∧ GS a b c B G wr st' ∧ Below B w wr) := Hi (by
       have h3 := HK.out
       rw [HS3.out] at h3
       exact ⟨h3.2.2, h3.1, h3.2.1⟩)
      go_wp2_with fail
      go_ret
      exact ⟨rfl, hfinr.out⟩
end Go.Proofs.Ytkndmibmmoikbaa
namespace Go.Proofs.Ytkndmibmmoikbaa
open Go.RowKit
open Cox (Tl)
theorem gstep_say (a b c : Int) (m : Fin 3 → Fin 3 → Nat) (N : Nat) (hm : ∀ i j : Fin 3, m i j < 100) (ho : ∀ i j : Fin 3, i ≠ j → (if (i.val : Int) + (j.val : Int) = 1 then a else if (i.val : Int) + (j.val : Int) = 3 then b else c) = (m i j : Int)) (hN : N ≤ 1000000000000) (f : Nat) (hf : f < 1000000) : GSaid a b c m N f := by
 induction f with
 | zero => intro B G w st x s st' y _ _ h; simp [Cox.step] at h
 | succ f ih =>
  have ih := ih (by omega)
  intro B G w st x s st' y hg hx hstep hlen
  have hnx : st[x]? = some st[x] := List.getElem?_eq_getElem hx
  generalize st[x] = nd at hnx
  cases hts : nd.to s with
  | some y0 =>
   have hstep2 := hstep
   simp only [Cox.step, hnx, Option.bind_some, hts] at hstep2
   have hlen2 : ¬ f < nd.word.length := by intro h; rw [if_pos h] at hstep2; cases hstep2
   rw [if_neg hlen2] at hstep2
   simp only [Option.some.injEq, Prod.mk.injEq] at hstep2
   obtain ⟨rfl, rfl⟩ := hstep2
   refine (gstep_known a b c B G w st hg x s nd hnx y0 hts).mono ?_
   rintro e w' ⟨rfl, rfl⟩
   obtain ⟨R, cap, cur, h⟩ := hg
   exact ⟨rfl, h.closed x nd s y0 hnx hts, ⟨R, cap, cur, h⟩, Below.refl _ _⟩
  | none => exact gstep_new a b c m N f hm ho hN (by omega) ih B G w st hg x s nd hnx hts st' y hstep hlen
theorem walk_len (m : Fin 3 → Fin 3 → Nat) (f : Nat) (l : List (Fin 3)) : ∀ (st : List Tl) (x : Nat) (st' : List Tl) (y : Nat), Cox.walk m f st x l = some (st', y) → st.length ≤ st'.length := by
 induction l with
 | nil => intro st x st' y h; simp only [Cox.walk, Option.some.injEq, Prod.mk.injEq] at h; obtain ⟨rfl, _⟩ := h; exact Nat.le_refl _
 | cons s l ih =>
  intro st x st' y h
  simp only [Cox.walk] at h
  cases hs : Cox.step m f st x s with
  | none => rw [hs] at h; cases h
  | some r =>
   rw [hs] at h
   exact Nat.le_trans (step_len m f _ _ _ _ _ hs) (ih _ _ _ _ h)
theorem gwalk_say (a b c : Int) (m : Fin 3 → Fin 3 → Nat) (N : Nat) (hm : ∀ i j : Fin 3, m i j < 100) (ho : ∀ i j : Fin 3, i ≠ j → (if (i.val : Int) + (j.val : Int) = 1 then a else if (i.val : Int) + (j.val : Int) = 3 then b else c) = (m i j : Int)) (hN : N ≤ 1000000000000) (f : Nat) (hf : f < 1000000)
 (B G : Nat) (w : World) (st : List Tl) (x : Nat) (l : List (Fin 3)) (hl : l.length < 1000000) (st' : List Tl) (y : Nat) (hg : GS a b c B G w st) (hx : x < st.length) (hw : Cox.walk m f st x l = some (st', y)) (hlen : st'.length ≤ N) :
 Calls Try.prog 66 #[.pointer (some ⟨G, 0, none⟩), .int .i64 x, .string (wb l)] w fun e w' => e = .returned (.int .i64 y) ∧ y < st'.length ∧ GS a b c B G w' st' ∧ Below B w w' := by
 have ST := Hi (gstep_say a b c m N hm ho hN f hf)
 have HIX := Hi (fun i h W => index_wb l i h W)
 have zl := wb_size l
 have HG := Lib.hid hg
 have HX := Lib.hid hx
 have HW := Lib.hid hw
 clear hg hx hw hm ho
 obtain ⟨SS, hS⟩ : ∃ q, q = wb l := ⟨_, rfl⟩
 rw [← hS] at zl ⊢
 have HS := Lib.hid hS
 clear hS
 go_enter Try.func66, Try.ntmps66
 go_wp2_with fail
 go_loopw [1, 7] (fun tt cc wr => ∃ (j xj : Nat) (stj : List Tl), j ≤ l.length ∧ tt = .int .i64 xj ∧ cc = .int .i64 j ∧ Hid (Cox.walk m f stj xj (l.drop j) = some (st', y) ∧ GS a b c B G wr stj ∧ Below B w wr ∧ xj < stj.length)) (fun _ cc _ => l.length - (intOf cc).toNat)
 case atStart => exact ⟨0, x, st, Nat.zero_le _, rfl, rfl, Lib.hid ⟨HW.out, HG.out, Below.refl _ _, HX.out⟩⟩
 case round =>
  obtain ⟨j, xj, stj, hj, rfl, rfl, HJ⟩ := hrel
  by_cases hlt : j < l.length
  · have hwk := HJ.out.1
    rw [List.drop_eq_getElem_cons hlt] at hwk
    simp only [Cox.walk] at hwk
    cases hs : Cox.step m f stj xj l[j] with
    | none => rw [hs] at hwk; cases hwk
    | some r =>
     rw [hs] at hwk
     simp only [Option.bind_some] at hwk
     have CS := Hi (ST.out B G wr stj xj l[j] r.1 r.2 HJ.out.2.1 HJ.out.2.2.2 hs (Nat.le_trans (walk_len m f _ _ _ _ _ hwk) hlen))
     have i1 := HIX.out j hlt
     rw [← HS.out] at i1
     have j1 : (j : Int) < (l.length : Int) := by omega
     have j2 : (0 : Int) ≤ (j : Int) := by omega
     have hb : (l[j].val : Int) < 3 := by have := l[j].isLt; omega
     have hb0 : (0 : Int) ≤ (l[j].val : Int) := by omega
     have hwr : IntKind.i64.wrap (l[j].val : Int) = (l[j].val : Int) := by rw [IntKind.wrap_i64]; omega
     have HWK := Lib.hid hwk
     clear hwk hs
     generalize (l[j].val : Int) = lj at *
     go_wp2_with (go_at_call 75; refine CS.out.mono ?_; rintro e w3 ⟨rfl, hx3, hg3, hb3⟩)
     have HG3 := Hi (And.intro hx3 (And.intro hg3 hb3))
     clear hx3 hg3 hb3
     go_wp2_with fail
     go_roundw
     case rel => exact ⟨j + 1, r.2, r.1, by omega, rfl, by go_num, Lib.hid ⟨HWK.out, HG3.out.2.1, HJ.out.2.2.1.trans HG3.out.2.2, HG3.out.1⟩⟩
     case measure => simp [intOf]; omega
  · have hwk := HJ.out.1
    rw [List.drop_eq_nil_of_le (by omega)] at hwk
    simp only [Cox.walk, Option.some.injEq, Prod.mk.injEq] at hwk
    obtain ⟨rfl, rfl⟩ := hwk
    have hfin : Hid (xj < stj.length ∧ GS a b c B G wr stj ∧ Below B w wr) := Lib.hid ⟨HJ.out.2.2.2, HJ.out.2.1, HJ.out.2.2.1⟩
    have j1 : ¬ (j : Int) < (l.length : Int) := by omega
    go_wp2_with fail
    go_ret
    exact ⟨rfl, hfin.out⟩
end Go.Proofs.Ytkndmibmmoikbaa
namespace Go.Proofs.Ytkndmibmmoikbaa
open Go.RowKit
open Cox (Tl)
theorem newgraph_any (a b c : Int) (w : World) : Calls Try.prog 65 #[oval a b c] w fun e w' => ∃ G, e = .returned (.pointer (some ⟨G, 0, none⟩)) ∧ GS a b c w.heap.size G w' [Cox.first] ∧ Below w.heap.size w w' := by
 unfold oval
 go_enter Try.func65, Try.ntmps65
 go_wp2
 go_ret
 refine ⟨w.heap.size + 1 + 1, by simp [go_sem], ⟨w.heap.size + 1, 1, gcells Cox.first, ?_⟩, ?_⟩
 · refine ⟨?_, ?_, by omega, by omega, by omega, by simp, by unfold maxLen; omega, rfl, ?_, ?_, ?_⟩
   · exact str_new _ _ _ _ (by simp)
   · refine (((Below.refl (w.heap.size + 2) _).alloc (by simp) _).block _ (by omega)).trans ?_
     exact str_new _ _ _ _ (by simp)
   · intro k nd hk j hj
     have : k = 0 := by
      have := (List.getElem?_eq_some_iff.1 hk).1
      simpa using this
     subst this
     simp at hk
     subst hk
     simp
   · intro k nd i x hk hx
     have : k = 0 := by
      have := (List.getElem?_eq_some_iff.1 hk).1
      simpa using this
     subst this
     simp at hk
     subst hk
     cases hx
   · intro k nd hk
     have : k = 0 := by
      have := (List.getElem?_eq_some_iff.1 hk).1
      simpa using this
     subst this
     simp at hk
     subst hk
     exact Nat.le_refl _
 · exact (((Below.refl _ _).alloc (Nat.le_refl _) _).alloc (by simp) _).alloc (by simp; omega) _
theorem few_tiles {K : Type} [Cox.OR K] {T : Cox.Tri K} {l : List (Fin 3)} (hl : l.length ≤ 780) : ∃ st' y, Cox.walk T.m 100000 [Cox.first] 0 l = some (st', y) ∧ st'.length ≤ 1000000000000 ∧ ∃ nd, st'[y]? = some nd ∧ nd.word = Cox.nf T l := by
 obtain ⟨st', P', y, h1, h2, h3, h4, h5, h6, h7, h8, h9⟩ := Cox.G.walk_ok T (f := 100000) l [Cox.first] (fun k => k = 0) 0 [] (Cox.G.first_ok T) (fun k hk => by subst hk; simp) ⟨rfl, Cox.first, rfl, (Cox.nf_nil T).symm⟩ (by simp; omega)
 obtain ⟨_, nd, g1, g2⟩ := h4
 refine ⟨st', y, h1, ?_, nd, g1, by simpa using g2⟩
 have q1 : Cox.Phi 3 l.length ≤ Cox.Phi 3 780 := Cox.phi_mono 3 hl
 have q2 := Cox.phi_le 780 3
 have q3 : (780 + 1) ^ 3 = 476379541 := by decide
 rw [q3] at q2
 have q4 : l.length * Cox.Phi 3 l.length ≤ 780 * 476379541 := Nat.mul_le_mul hl (Nat.le_trans q1 q2)
 simp only [List.length_cons, List.length_nil, Nat.zero_add] at h9
 omega
theorem ords_say {a b c : Nat} {T : Fin 3 → Fin 3 → Nat} (hT : T = ords a b c) : ∀ i j : Fin 3, i ≠ j → (if (i.val : Int) + (j.val : Int) = 1 then (a : Int) else if (i.val : Int) + (j.val : Int) = 3 then (b : Int) else (c : Int)) = (T i j : Int) := by
 intro i j hij
 subst hT
 unfold ords
 rw [if_neg hij]
 generalize i.val = u
 generalize j.val = v
 by_cases q1 : u + v = 1
 · rw [if_pos (show (u : Int) + (v : Int) = 1 by omega), if_pos q1]
 · rw [if_neg (show ¬ (u : Int) + (v : Int) = 1 by omega), if_neg q1]
   by_cases q3 : u + v = 3
   · rw [if_pos (show (u : Int) + (v : Int) = 3 by omega), if_pos q3]
   · rw [if_neg (show ¬ (u : Int) + (v : Int) = 3 by omega), if_neg q3]
theorem rword_any {K : Type} [Cox.OR K] (T : Cox.Tri K) (a b c : Nat) (hT : T.m = ords a b c) (h12 : a ≤ 12 ∧ b ≤ 12 ∧ c ≤ 12) (l : List (Fin 3)) (hl : l.length ≤ 780) (w : World) :
 Calls Try.prog 38 #[oval a b c, .string (wb l)] w fun e w' => e = .returned (.string (wb (Cox.nf T l))) ∧ Below w.heap.size w w' := by
 obtain ⟨st', y, hw, hN, nd, hnd, hwd⟩ := few_tiles (T := T) hl
 have hm : ∀ i j : Fin 3, T.m i j < 100 := by
  intro i j
  rw [hT]; unfold ords
  split
  · omega
  · split
    · omega
    · split <;> omega
 have HG := Hi (fun w => newgraph_any (a : Int) b c w)
 have HW := Hi (fun (B G : Nat) (w : World) (hg : GS (a : Int) b c B G w [Cox.first]) => gwalk_say (a : Int) b c T.m 1000000000000 hm (ords_say hT) (Nat.le_refl _) 100000 (by omega) B G w [Cox.first] 0 l (by omega) st' y hg (by simp) hw hN)
 have HND := Hi (And.intro hnd hwd)
 clear hw hN hnd hwd hm hT h12
 generalize (a : Int) = ai at *
 generalize (b : Int) = bi at *
 generalize (c : Int) = ci at *
 generalize wb l = S at *
 unfold oval at *
 have hb0 := (Below.refl w.heap.size w).alloc (Nat.le_refl _) (.cells #[.int .i64 ai, .int .i64 bi, .int .i64 ci] 23)
 have HB0 := Lib.hid hb0
 clear hb0
 go_enter Try.func38, Try.ntmps38
 go_wp2_with fail
 go_at_call 65
 refine (HG.out _).mono ?_
 rintro e w1 ⟨G, rfl, hg1, hb1⟩
 have HG1 := Lib.hid hg1
 have HB1 := Hi (HB0.out.trans (hb1.mono HB0.out.size))
 clear hb1 hg1
 go_wp2_with fail
 go_at_call 66
 refine (HW.out _ _ _ HG1.out).mono ?_
 rintro e w2 ⟨rfl, hy, hg2, hb2⟩
 have HB2 := Hi (HB1.out.trans (hb2.mono HB0.out.size))
 obtain ⟨R, cap, cur, h⟩ := hg2
 have k0 := h.slice
 have k1 := h.word HND.out.1
 rw [HND.out.2] at k1
 have y1 : (y : Int) < (st'.length : Int) := by omega
 have y2 : (0 : Int) ≤ (y : Int) := by omega
 clear h hb2
 go_wp2
 go_ret
 exact ⟨rfl, HB2.out⟩
end Go.Proofs.Ytkndmibmmoikbaa
namespace Go.Proofs.Ytkndmibmmoikbaa
open Go.RowKit
open Cox (Tl)
theorem isletter_any (i : Int) (w : World) : Calls Try.prog 30 #[.int .i64 i] w fun e w' => e = .returned (.bool (decide (0 ≤ i ∧ i ≤ 2))) ∧ w' = w := by
 by_cases h1 : 0 ≤ i
 · by_cases h2 : i ≤ 2
   · rw [decide_eq_true ⟨h1, h2⟩]
     go_enter Try.func30, Try.ntmps30
     go_wp2
     go_ret
     exact ⟨rfl, rfl⟩
   · rw [decide_eq_false (fun h => h2 h.2)]
     go_enter Try.func30, Try.ntmps30
     go_wp2
     go_ret
     exact ⟨rfl, rfl⟩
 · rw [decide_eq_false (fun h => h1 h.1)]
   go_enter Try.func30, Try.ntmps30
   go_wp2
   go_ret
   exact ⟨rfl, rfl⟩
theorem brief_any (s : ByteArray) (hs : s.size ≤ maxLen) (w : World) : Calls Try.prog 14 #[.string s] w fun e w' => e = .returned (.bool (decide (s.size ≤ 20 ∨ (60 < s.size ∧ s.size ≤ 120)))) ∧ w' = w := by
 unfold maxLen at hs
 by_cases h1 : s.size ≤ 20
 · rw [decide_eq_true (.inl h1)]
   go_enter Try.func14, Try.ntmps14
   go_wp2
   go_ret
   exact ⟨rfl, rfl⟩
 · have i1 : ¬ (s.size : Int) ≤ 20 := by omega
   by_cases h2 : 60 < s.size
   · have i2 : (60 : Int) < (s.size : Int) := by omega
     by_cases h3 : s.size ≤ 120
     · have i3 : (s.size : Int) ≤ 120 := by omega
       rw [decide_eq_true (.inr ⟨h2, h3⟩)]
       have d3 : decide ((s.size : Int) ≤ 120) = true := by simpa using i3
       go_enter Try.func14, Try.ntmps14
       go_wp2
       go_ret
       simp
     · have i3 : ¬ (s.size : Int) ≤ 120 := by omega
       rw [decide_eq_false (by omega)]
       have d1 : decide ((s.size : Int) ≤ 20) = false := by simpa using i1
       have d3 : decide ((s.size : Int) ≤ 120) = false := by simpa using i3
       go_enter Try.func14, Try.ntmps14
       go_wp2
       go_ret
       simp
   · have i2 : ¬ (60 : Int) < (s.size : Int) := by omega
     rw [decide_eq_false (by omega)]
     have d1 : decide ((s.size : Int) ≤ 20) = false := by simpa using i1
     go_enter Try.func14, Try.ntmps14
     go_wp2
     go_ret
     simp
theorem pletter_any (i : Fin 3) (w : World) : Calls Try.prog 61 #[.int .i64 (i.val : Int)] w fun e w' => e = .returned (.string (wb [i])) ∧ w' = w.alloc (.cells #[.int .u8 (i.val : Int)] 5) := by
 have hcv := fun W b o => conv_byte i W ⟨b, o, none⟩ rfl
 match i with
 | 0 =>
  go_enter Try.func61, Try.ntmps61
  go_wp2
  go_ret
  exact ⟨rfl, rfl⟩
 | 1 =>
  go_enter Try.func61, Try.ntmps61
  go_wp2
  go_ret
  exact ⟨rfl, rfl⟩
 | 2 =>
  go_enter Try.func61, Try.ntmps61
  go_wp2
  go_ret
  exact ⟨rfl, rfl⟩
def Row (w : World) (b o : Nat) (l : List ByteArray) : Prop := ∀ i (h : i < l.length), w.cell? ⟨b, o + i, none⟩ = some (.string l[i])
end Go.Proofs.Ytkndmibmmoikbaa
namespace Go.Proofs.Ytkndmibmmoikbaa
open Go.RowKit
open Cox (Tl)
def tv (A : Nat → Nat) : Option Nat → Value
 | none => .pointer none
 | some k => .pointer (some ⟨A k, 0, none⟩)
def pcells (A : Nat → Nat) (la : Int) (nd : Tl) : Array Value := #[.int .i64 nd.lev, tv A (nd.to 0), tv A (nd.to 1), tv A (nd.to 2), .bool (nd.down 0), .bool (nd.down 1), .bool (nd.down 2), .int .i64 la]
structure PRep (w : World) (A : Nat → Nat) (la : Nat → Int) (st : List Tl) : Prop where
 cells : ∀ (k : Nat) (nd : Tl), st[k]? = some nd → w.heap[A k]? = some (.cells (pcells A (la k) nd) 124 (0, 0))
 inj : ∀ (j k : Nat), j < st.length → k < st.length → A j = A k → j = k
 closed : ∀ (k : Nat) (nd : Tl) (i : Fin 3) (b : Nat), st[k]? = some nd → nd.to i = some b → b < st.length
section
variable {w : World} {A : Nat → Nat} {la : Nat → Int} {st : List Tl}
theorem PRep.lt (h : PRep w A la st) {k : Nat} (hk : k < st.length) : A k < w.heap.size := by
 have := h.cells k st[k] (List.getElem?_eq_getElem hk)
 exact (Array.getElem?_eq_some_iff.1 this).1
theorem PRep.to (h : PRep w A la st) {k : Nat} {nd : Tl} (hk : st[k]? = some nd) (s : Fin 3) : w.cell? ⟨A k, 1 + s.val, none⟩ = some (tv A (nd.to s)) := by
 rw [cell_of (h.cells k nd hk)]
 match s with
 | 0 => rfl
 | 1 => rfl
 | 2 => rfl
theorem PRep.down (h : PRep w A la st) {k : Nat} {nd : Tl} (hk : st[k]? = some nd) (s : Fin 3) : w.cell? ⟨A k, 4 + s.val, none⟩ = some (.bool (nd.down s)) := by
 rw [cell_of (h.cells k nd hk)]
 match s with
 | 0 => rfl
 | 1 => rfl
 | 2 => rfl
theorem PRep.last (h : PRep w A la st) {k : Nat} {nd : Tl} (hk : st[k]? = some nd) : w.cell? ⟨A k, 7, none⟩ = some (.int .i64 (la k)) := by
 rw [cell_of (h.cells k nd hk)]; rfl
theorem PRep.depth (h : PRep w A la st) {k : Nat} {nd : Tl} (hk : st[k]? = some nd) : w.cell? ⟨A k, 0, none⟩ = some (.int .i64 nd.lev) := by
 rw [cell_of (h.cells k nd hk)]; rfl
theorem PRep.free (h : PRep w A la st) {k : Nat} (hk : k < st.length) (o : Nat) : w.frozen? ⟨A k, o, none⟩ = false := free_of (h.cells k st[k] (List.getElem?_eq_getElem hk)) o
end
theorem descend_any (A : Nat → Nat) (la : Nat → Int) (st : List Tl) (x : Nat) (i j : Fin 3) (n : Nat) (hn : n < 100) (w : World) (hr : PRep w A la st) (hx : x < st.length) (o : Option Nat) (ho : Cox.lowest st x i j n = some o) :
 Calls Try.prog 79 #[.pointer (some ⟨A x, 0, none⟩), .int .i64 (i.val : Int), .int .i64 (j.val : Int), .int .i64 n] w fun e w' => e = .returned (tv A o) ∧ w' = w := by
 have HR := Lib.hid hr
 have HO := Lib.hid ho
 clear hr ho
 go_enter Try.func79, Try.ntmps79
 go_wp2_with fail
 go_loopw [0, 1, 2, 10] (fun xx ii jj kk wr => wr = w ∧ ∃ (k x' : Nat), k ≤ n ∧ kk = .int .i64 k ∧ xx = .pointer (some ⟨A x', 0, none⟩) ∧ ii = .int .i64 ((Cox.nx i j k).val : Int) ∧ jj = .int .i64 ((Cox.nx j i k).val : Int) ∧ Hid (Cox.lowest st x' (Cox.nx i j k) (Cox.nx j i k) (n - k) = some o ∧ x' < st.length)) (fun _ _ _ kk _ => n - (intOf kk).toNat)
 case atStart => exact ⟨rfl, 0, x, by omega, rfl, rfl, rfl, rfl, Lib.hid ⟨HO.out, hx⟩⟩
 case round =>
  obtain ⟨rfl, k, x', hk, rfl, rfl, rfl, rfl, HJ⟩ := hrel
  by_cases hkn : k < n
  · obtain ⟨r, hr⟩ : ∃ r, n - k = r + 1 := ⟨n - k - 1, by omega⟩
    have hl := HJ.out.1
    rw [hr] at hl
    obtain ⟨nd, hnd, hd⟩ := lowest_succ hl
    have k1 : (k : Int) < (n : Int) := by omega
    have d0 := HR.out.down hnd (Cox.nx i j k)
    have d1 := HR.out.to hnd (Cox.nx i j k)
    have d2 : ((Cox.nx i j k).val : Int) < 3 := by have := (Cox.nx i j k).isLt; omega
    have d3 : (0 : Int) ≤ ((Cox.nx i j k).val : Int) := by omega
    have HN1 : Hid ((Cox.nx i j (k + 1)).val = (Cox.nx j i k).val) := Hi (by rw [Cox.nx_succ])
    have HN2 : Hid ((Cox.nx j i (k + 1)).val = (Cox.nx i j k).val) := Hi (by rw [Cox.nx_succ])
    rcases hd with ⟨hf, hon⟩ | ⟨hf, x2, hx2, hl2⟩
    · rw [hf] at d0
      have HON := Lib.hid hon
      clear hf hon d1 hnd hl HN1 HN2
      generalize (Cox.nx i j k).val = cv at *
      go_wp2
      go_ret
      exact ⟨by rw [HON.out]; rfl, rfl⟩
    · rw [hf] at d0
      rw [hx2] at d1
      simp only [tv] at d1
      have hx2l := HR.out.closed x' nd _ x2 hnd hx2
      have hr2 : n - (k + 1) = r := by omega
      have HL2 : Hid (Cox.lowest st x2 (Cox.nx i j (k + 1)) (Cox.nx j i (k + 1)) (n - (k + 1)) = some o) := Hi (by rw [hr2, Cox.nx_succ, Cox.nx_succ]; exact hl2)
      clear hf hx2 hl2 hnd hl hr2
      generalize (Cox.nx i j k).val = cv at *
      generalize (Cox.nx j i k).val = dv at *
      go_wp2_with fail
      go_roundw
      case rel => exact ⟨trivial, k + 1, x2, by omega, by go_num, rfl, by rw [HN1.out], by rw [HN2.out], Lib.hid ⟨HL2.out, hx2l⟩⟩
      case measure => simp [intOf]; omega
  · have hkn2 : k = n := by omega
    subst hkn2
    have hl := HJ.out.1
    have h9 : k - k = 0 := by omega
    rw [h9] at hl
    have ho : o = some x' := by
     have : some (some x') = some o := hl
     simpa using this.symm
    have HOO := Lib.hid ho
    clear hl h9 ho
    go_wp2
    go_ret
    exact ⟨by rw [HOO.out]; rfl, rfl⟩
end Go.Proofs.Ytkndmibmmoikbaa
