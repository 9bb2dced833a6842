/- Chapter 10: Rf0 Rf1 Rf2 Rf3. -/
import Derived.Test.YtkndmibmmoikbaaC28
import Derived.Test.YtkndmibmmoikbaaC27
import Derived.Deep.CutRange
set_option linter.all false
set_option maxRecDepth 100000
set_option maxHeartbeats 16000000
namespace Go.Proofs.Ytkndmibmmoikbaa
open Go.RowKit
open Cox (Tl)
theorem checked_any (a b c : Int) (ts : List ByteArray) (ps : List PairD) (pt pp : Option Addr) (ct cp : Nat) (w : World) (hts : StrsAt w pt ts) (hps : PairsAt w pp ps) (hlt : ts.length ≤ maxLen) (hlp : ps.length ≤ maxLen)
 (hs : ∀ s, s ∈ ts → s.size ≤ maxLen) (hs2 : ∀ p, p ∈ ps → p.1.tile.size ≤ maxLen ∧ p.2.tile.size ≤ maxLen) :
 Calls Try.prog 37 #[oval a b c, .slice pt ts.length ct, .slice pp ps.length cp] w fun e w' => e = .returned (.int .i64 (form a b c ts ps)) ∧ Below w.heap.size w w' := by
 obtain ⟨Q, hQ⟩ : ∃ Q : Ending → World → Prop, Q = fun e w' => e = .returned (.int .i64 (form a b c ts ps)) ∧ Below w.heap.size w w' := ⟨_, rfl⟩
 rw [← hQ]
 have HR : Hid (∀ w' x, form a b c ts ps = x → Below w.heap.size w w' → Q (.returned (.int .i64 x)) w') := Hi (fun w' x hx hb => by rw [hQ, hx]; exact ⟨rfl, hb⟩)
 clear hQ
 unfold maxLen at hlt hlp
 have IA := Hi (fun w => allowed_any a b c w)
 have HTS := Lib.hid hts
 have HPS := Lib.hid hps
 have HS := Lib.hid hs
 have HS2 := Lib.hid hs2
 clear hts hps hs hs2
 have hb0 := (Below.refl w.heap.size w).alloc (Nat.le_refl _) (.cells #[.int .i64 a, .int .i64 b, .int .i64 c] 23)
 have HB0 := Lib.hid hb0
 clear hb0
 unfold oval at *
 by_cases hc : chk a b c = 0
 case neg =>
  have HF : Hid (form a b c ts ps = chk a b c) := Hi (by unfold form; rw [if_pos hc])
  have h0 : (chk a b c == 0) = false := by simpa using hc
  generalize chk a b c = e0 at *
  clear hc
  go_enter Try.func37, Try.ntmps37
  go_wp2_with (go_at_call 63; refine (IA.out _).mono ?_; rintro e w2 ⟨rfl, hb2⟩; have HB2 := Lib.hid hb2; clear hb2)
  exact HR.out _ _ HF.out (HB0.out.trans (HB2.out.mono (by simp)))
 case pos =>
  rw [hc] at IA
  by_cases hbig : 200 < ts.length ∨ 600 < ps.length
  · have HF : Hid (form a b c ts ps = 4) := Hi (by unfold form; rw [if_neg (by simp [hc]), if_pos hbig])
    by_cases h1 : 200 < ts.length
    · have i1 : (200 : Int) < (ts.length : Int) := by omega
      clear hbig h1
      go_enter Try.func37, Try.ntmps37
      go_wp2_with (go_at_call 63; refine (IA.out _).mono ?_; rintro e w2 ⟨rfl, hb2⟩; have HB2 := Lib.hid hb2; clear hb2)
      exact HR.out _ _ HF.out (HB0.out.trans (HB2.out.mono (by simp)))
    · have i1 : ¬ (200 : Int) < (ts.length : Int) := by omega
      have i2 : (600 : Int) < (ps.length : Int) := by omega
      have d1 : decide ((200 : Int) < (ts.length : Int)) = false := by simpa using i1
      clear hbig h1
      go_enter Try.func37, Try.ntmps37
      go_wp2_with (go_at_call 63; refine (IA.out _).mono ?_; rintro e w2 ⟨rfl, hb2⟩; have HB2 := Lib.hid hb2; clear hb2)
      exact HR.out _ _ HF.out (HB0.out.trans (HB2.out.mono (by simp)))
  · have i1 : ¬ (200 : Int) < (ts.length : Int) := by omega
    have i2 : ¬ (600 : Int) < (ps.length : Int) := by omega
    have d1 : decide ((200 : Int) < (ts.length : Int)) = false := by simpa using i1
    have d2 : decide ((600 : Int) < (ps.length : Int)) = false := by simpa using i2
    have HFO : Hid (form a b c ts ps = if cws ts ≠ 0 then cws ts else cpairs ps) := Hi (by unfold form; rw [if_neg (by simp [hc]), if_neg hbig])
    have IW := Hi (fun s hs w => checkword_any s hs w)
    clear hbig
    go_enter Try.func37, Try.ntmps37
    go_wp2_with (go_at_call 63; refine (IA.out _).mono ?_; rintro e w2 ⟨rfl, hb2⟩; have HB2 := Lib.hid hb2; clear hb2)
    have HB3 : Hid (Below w.heap.size w w2) := Hi (HB0.out.trans (HB2.out.mono (by simp)))
    clear HB2 HB0 d1 d2 i1 i2
    go_loopw [30] (fun t wr => ∃ k : Nat, k ≤ ts.length ∧ t = .int .i64 k ∧ Hid ((∀ i (h : i < ts.length), i < k → cw ts[i] = 0) ∧ Below w.heap.size w wr)) (fun t _ => ts.length - (intOf t).toNat)
    case atStart => exact ⟨0, by omega, rfl, Lib.hid ⟨fun i h h2 => by omega, HB3.out⟩⟩
    case round =>
     obtain ⟨k, hk, rfl, HK⟩ := hrel
     by_cases hlt : k < ts.length
     · obtain ⟨bt, ot, rfl, hr⟩ := (HTS.out.below HK.out.2) (by intro h; rw [h] at hlt; simp at hlt)
       have c0 := hr k hlt
       have k1 : (k : Int) < (ts.length : Int) := by omega
       have k2 : (0 : Int) ≤ (k : Int) := by omega
       have IWk := Hi (fun w => IW.out ts[k] (HS.out _ (List.getElem_mem hlt)) w)
       have hcase : cw ts[k] = 0 ∨ cw ts[k] ≠ 0 := by omega
       have HC := Hi (And.intro (fun (h : cw ts[k] = 0) => (fun i (hi : i < ts.length) (h2 : i < k + 1) => (by
        by_cases e : i = k
        · subst e; exact h
        · exact HK.out.1 i hi (by omega) : cw ts[i] = 0))) (fun (h : cw ts[k] ≠ 0) => cws_first hlt HK.out.1 h))
       clear hr
       generalize ts[k] = sk at *
       rcases hcase with h | h
       · rw [h] at IWk
         have HC1 := Hi (HC.out.1 h)
         clear h HC
         go_wp2_with (go_at_call 64; refine (IWk.out _).mono ?_; rintro e w4 ⟨rfl, rfl⟩)
         go_roundw
         case rel => exact ⟨k + 1, by omega, by go_num, Lib.hid ⟨HC1.out, HK.out.2⟩⟩
         case measure => simp [intOf]; omega
       · have HE : Hid (form a b c ts ps = cw sk) := Hi (by rw [HFO.out, HC.out.2 h, if_pos h])
         have h0 : (cw sk == 0) = false := by simpa using h
         clear h HC
         generalize cw sk = ce at *
         go_wp2_with (go_at_call 64; refine (IWk.out _).mono ?_; rintro e w4 ⟨rfl, rfl⟩)
         exact HR.out _ _ HE.out HK.out.2
     · have hkl : k = ts.length := by omega
       subst hkl
       have HW : Hid (cws ts = 0) := Hi (cws_good fun i hi => HK.out.1 i hi hi)
       have k1 : ¬ (ts.length : Int) < (ts.length : Int) := by omega
       have HFO2 : Hid (form a b c ts ps = cpairs ps) := Hi (by rw [HFO.out, HW.out]; simp)
       clear HFO
       go_wp2_with fail
       go_loopw [42] (fun t wr => ∃ k : Nat, k ≤ ps.length ∧ t = .int .i64 k ∧ Hid ((∀ i (h : i < ps.length), i < k → cpair ps[i] = 0) ∧ Below w.heap.size w wr)) (fun t _ => ps.length - (intOf t).toNat)
       case atStart => exact ⟨0, by omega, rfl, Lib.hid ⟨fun i h h2 => by omega, HK.out.2⟩⟩
       case round =>
        obtain ⟨k, hk, rfl, HP⟩ := hrel
        by_cases hlt : k < ps.length
        · obtain ⟨bt, ot, rfl, hr⟩ := (HPS.out.below HP.out.2) (by intro h; rw [h] at hlt; simp at hlt)
          obtain ⟨c0, c1, c2, c3⟩ := hr k hlt
          have k1 : (k : Int) < (ps.length : Int) := by omega
          have k2 : (0 : Int) ≤ (k : Int) := by omega
          clear hr
          have HSZ := Hi (HS2.out _ (List.getElem_mem hlt))
          have HKK := Hi (And.intro (fun (h : cpair ps[k] = 0) => (fun i (hi : i < ps.length) (h2 : i < k + 1) => (by
           by_cases e : i = k
           · subst e; exact h
           · exact HP.out.1 i hi (by omega) : cpair ps[i] = 0))) (fun (h : cpair ps[k] ≠ 0) => cpairs_first hlt HP.out.1 h))
          generalize ps[k] = pk at *
          go_upto_region 16 with fail
          have hbw := (Below.refl wr.heap.size wr).alloc (Nat.le_refl _) (.cells #[.string pk.1.tile, .int .i64 pk.1.mir, .string pk.2.tile, .int .i64 pk.2.mir] 41)
          have hcw := str_new wr #[.string pk.1.tile, .int .i64 pk.1.mir, .string pk.2.tile, .int .i64 pk.2.mir] 41 _ rfl
          generalize wr.alloc (.cells #[.string pk.1.tile, .int .i64 pk.1.mir, .string pk.2.tile, .int .i64 pk.2.mir] 41) = wa at *
          have e0 : wa.cell? ⟨wr.heap.size, 0, none⟩ = some (.string pk.1.tile) := by rw [cell_of hcw]; rfl
          have e1 : wa.cell? ⟨wr.heap.size, 1, none⟩ = some (.int .i64 pk.1.mir) := by rw [cell_of hcw]; rfl
          have e2 : wa.cell? ⟨wr.heap.size, 2, none⟩ = some (.string pk.2.tile) := by rw [cell_of hcw]; rfl
          have e3 : wa.cell? ⟨wr.heap.size, 3, none⟩ = some (.int .i64 pk.2.mir) := by rw [cell_of hcw]; rfl
          have HWA := Hi (HP.out.2.trans (hbw.mono HP.out.2.size))
          clear hbw hcw c0 c1 c2 c3
          generalize wr.heap.size = bx at *
          have hce0 : ∀ j, j < 2 → wa.cell? ⟨bx, j * 2, none⟩ = some (.string (edgeAt pk j).tile) ∧ wa.cell? ⟨bx, j * 2 + 1, none⟩ = some (.int .i64 (edgeAt pk j).mir) := fun j hj => by
           have : j = 0 ∨ j = 1 := by omega
           rcases this with rfl | rfl
           · exact ⟨e0, e1⟩
           · exact ⟨e2, e3⟩
          have HCE := Lib.hid hce0
          clear e0 e1 e2 e3 hce0
          go_wp2_with fail
          go_loopw [13] (fun t wq => ∃ j : Nat, j ≤ 2 ∧ t = .int .i64 j ∧ wq = wa ∧ Hid (∀ i, i < j → cedge (edgeAt pk i) = 0)) (fun t _ => 2 - (intOf t).toNat)
          case atStart => exact ⟨0, by omega, rfl, rfl, Hi (fun i h => by omega)⟩
          case round =>
           obtain ⟨j, hj, rfl, rfl, HJ⟩ := hrel
           by_cases hlj : j < 2
           · obtain ⟨f0, f1⟩ := HCE.out j hlj
             have j1 : (j : Int) < 2 := by omega
             have j2 : (0 : Int) ≤ (j : Int) := by omega
             have hsz : (edgeAt pk j).tile.size ≤ maxLen := by
              unfold edgeAt; split
              · exact HSZ.out.1
              · exact HSZ.out.2
             have IWk := Hi (fun w => IW.out (edgeAt pk j).tile hsz w)
             have IL := Hi (fun w => rletter_any (edgeAt pk j).mir w)
             have HE := Hi (And.intro (fun (h : cedge (edgeAt pk j) = 0) => (fun i (h2 : i < j + 1) => (by
              by_cases e : i = j
              · subst e; exact h
              · exact HJ.out i (by omega) : cedge (edgeAt pk i) = 0))) (fun (h : cedge (edgeAt pk j) ≠ 0) => (by
                have hj2 : j = 0 ∨ j = 1 := by omega
                have h0 : cpair pk = cedge (edgeAt pk j) := by
                 rcases hj2 with rfl | rfl
                 · unfold cpair; exact if_pos h
                 · have h1 := HJ.out 0 (by omega)
                   unfold cpair
                   rw [if_neg (by show ¬ cedge (edgeAt pk 0) ≠ 0; rw [h1]; simp)]; rfl
                have h2 := HKK.out.2 (by rw [h0]; exact h)
                rw [HFO2.out, h2, h0] : form a b c ts ps = cedge (edgeAt pk j))))
             clear hsz
             generalize edgeAt pk j = ej at *
             have hcase : cw ej.tile ≠ 0 ∨ (cw ej.tile = 0 ∧ isMir ej.mir) ∨ (cw ej.tile = 0 ∧ ¬ isMir ej.mir) := by
              by_cases h1 : cw ej.tile = 0
              · by_cases h2 : isMir ej.mir
                · exact .inr (.inl ⟨h1, h2⟩)
                · exact .inr (.inr ⟨h1, h2⟩)
              · exact .inl h1
             rcases hcase with h | ⟨h, hmir⟩ | ⟨h, hmir⟩
             · have hce : cedge ej = cw ej.tile := by unfold cedge; rw [if_pos h]
               have HE2 := Hi (HE.out.2 (by rw [hce]; exact h))
               rw [hce] at HE2
               have h0 : (cw ej.tile == 0) = false := by simpa using h
               clear h hce HE
               generalize cw ej.tile = ce at *
               go_wp2_with (go_at_call 64; refine (IWk.out _).mono ?_; rintro e w4 ⟨rfl, rfl⟩)
               exact HR.out _ _ HE2.out HWA.out
             · have hce : cedge ej = 0 := by unfold cedge; rw [if_neg (by simp [h]), if_pos hmir]
               have HE2 := Hi (HE.out.1 hce)
               rw [h] at IWk
               unfold isMir at hmir
               rw [decide_eq_true hmir] at IL
               clear h hce HE hmir
               go_wp2_with (first | (go_at_call 64; refine (IWk.out _).mono ?_; rintro e w4 ⟨rfl, rfl⟩) | (go_at_call 43; refine (IL.out _).mono ?_; rintro e w6 ⟨rfl, rfl⟩))
               go_roundw
               case rel => exact ⟨j + 1, by omega, by go_num, trivial, Lib.hid HE2.out⟩
               case measure => simp [intOf]; omega
             · have hce : cedge ej = 1 := by unfold cedge; rw [if_neg (by simp [h]), if_neg hmir]
               have HE2 := Hi (HE.out.2 (by rw [hce]; decide))
               rw [hce] at HE2
               rw [h] at IWk
               unfold isMir at hmir
               rw [decide_eq_false hmir] at IL
               clear h hce HE hmir
               go_wp2_with (first | (go_at_call 64; refine (IWk.out _).mono ?_; rintro e w4 ⟨rfl, rfl⟩) | (go_at_call 43; refine (IL.out _).mono ?_; rintro e w6 ⟨rfl, rfl⟩))
               exact HR.out _ _ HE2.out HWA.out
           · have hj2 : j = 2 := by omega
             subst hj2
             have hcp : cpair pk = 0 := by
              have h0 := HJ.out 0 (by omega)
              have h1 := HJ.out 1 (by omega)
              have h0' : cedge pk.1 = 0 := h0
              have h1' : cedge pk.2 = 0 := h1
              unfold cpair; rw [if_neg (by rw [h0']; simp)]; exact h1'
             have HKN := Hi (HKK.out.1 hcp)
             clear hcp
             go_wp2_with fail
             go_roundw
             case rel => exact ⟨k + 1, by omega, by go_num, Lib.hid ⟨HKN.out, HWA.out⟩⟩
             case measure => simp [intOf]; omega
        · have hkp : k = ps.length := by omega
          subst hkp
          have HGD : Hid (form a b c ts ps = 0) := Hi (by rw [HFO2.out]; exact cpairs_good fun i hi => HP.out.1 i hi hi)
          have k1 : ¬ (ps.length : Int) < (ps.length : Int) := by omega
          go_wp2_with fail
          exact HR.out _ _ HGD.out HP.out.2
end Go.Proofs.Ytkndmibmmoikbaa
namespace Go.Proofs.Ytkndmibmmoikbaa
open Go.RowKit
open Cox (Tl)
def IntsAt (w : World) (p : Option Addr) (l : List Int) : Prop := l ≠ [] → ∃ b o, p = some ⟨b, o, none⟩ ∧ ∀ i (h : i < l.length), w.cell? ⟨b, o + i, none⟩ = some (.int .i64 l[i])
def TosAt (w : World) (p : Option Addr) (n : Nat) (f : Nat → Nat → Int) : Prop := 0 < n → ∃ b o, p = some ⟨b, o, none⟩ ∧ ∀ t i, t < n → i < 3 → w.cell? ⟨b, o + t * 3 + i, none⟩ = some (.int .i64 (f t i))
theorem IntsAt.below {w w' : World} {p : Option Addr} {l : List Int} (h : IntsAt w p l) (hb : Below w.heap.size w w') : IntsAt w' p l := by
 intro hne
 obtain ⟨b, o, rfl, hr⟩ := h hne
 refine ⟨b, o, rfl, fun i hi => ?_⟩
 have h0 := hr i hi
 rw [hb.cell (p := ⟨b, o + i, none⟩)]
 · exact h0
 · exact World.block_lt_of_cell? w _ h0
theorem TosAt.below {w w' : World} {p : Option Addr} {n : Nat} {f : Nat → Nat → Int} (h : TosAt w p n f) (hb : Below w.heap.size w w') : TosAt w' p n f := by
 intro hne
 obtain ⟨b, o, rfl, hr⟩ := h hne
 refine ⟨b, o, rfl, fun t i ht hi => ?_⟩
 have h0 := hr t i ht hi
 rw [hb.cell (p := ⟨b, o + t * 3 + i, none⟩)]
 · exact h0
 · exact World.block_lt_of_cell? w _ h0
def nxt (js : List Nat) (k : Nat) (beh : Int) : Int := if h : k + 1 < js.length then (js[k + 1] : Int) else beh
def RLeads (f : Nat → Nat → Int) (js : List Nat) (s t : Fin 3) (beh : Int) : Prop := ∀ k (h : k < js.length), f js[k] (alt s t k).val = nxt js k beh
def lval (a b c : Int) (v1 : Value) (pto : Option Addr) (n cto : Nat) (v3 v4 : Value) : Value := .agg #[.int .i64 a, .int .i64 b, .int .i64 c, v1, .slice pto n cto, v3, v4]
theorem alt_succ (s t : Fin 3) (k : Nat) : alt s t (k + 1) = alt t s k := by
 unfold alt
 rcases Nat.mod_two_eq_zero_or_one k with h | h
 · rw [if_neg (by omega), if_pos h]
 · rw [if_pos (by omega), if_neg (by omega)]
theorem rleads_any (a b c : Int) (v1 v3 v4 : Value) (pto : Option Addr) (n cto : Nat) (f : Nat → Nat → Int) (w : World) (hto : TosAt w pto n f) (hn : n ≤ 1000) (pj : Option Addr) (cj : Nat) (js : List Nat) (hjs : IntsAt w pj (js.map fun j : Nat => (j : Int))) (hjn : ∀ j, j ∈ js → j < n) (hjl : js.length ≤ 1000) (s t : Fin 3) (beh : Int) :
 Calls Try.prog 46 #[lval a b c v1 pto n cto v3 v4, .slice pj js.length cj, .int .i64 (s.val : Int), .int .i64 (t.val : Int), .int .i64 beh] w fun e w' => ∃ bb : Bool, e = .returned (.bool bb) ∧ (bb = true ↔ RLeads f js s t beh) ∧ Below w.heap.size w w' := by
 obtain ⟨Q, hQ⟩ : ∃ Q : Ending → World → Prop, Q = fun e w' => ∃ bb : Bool, e = .returned (.bool bb) ∧ (bb = true ↔ RLeads f js s t beh) ∧ Below w.heap.size w w' := ⟨_, rfl⟩
 rw [← hQ]
 have HNO : Hid (∀ w', ¬ RLeads f js s t beh → Below w.heap.size w w' → Q (.returned (.bool false)) w') := Hi (fun w' hx hb => by rw [hQ]; exact ⟨false, rfl, ⟨fun h => (by cases h), fun h => (hx h).elim⟩, hb⟩)
 have HYES : Hid (∀ w', RLeads f js s t beh → Below w.heap.size w w' → Q (.returned (.bool true)) w') := Hi (fun w' hx hb => by rw [hQ]; exact ⟨true, rfl, ⟨fun _ => hx, fun _ => rfl⟩, hb⟩)
 clear hQ
 have HTO := Lib.hid hto
 have HJS := Lib.hid hjs
 have HJN := Lib.hid hjn
 unfold lval
 have hb0 := (Below.refl w.heap.size w).alloc (Nat.le_refl _) (.cells #[.int .i64 a, .int .i64 b, .int .i64 c, v1, .slice pto n cto, v3, v4] 54)
 have hc0 := str_new w #[.int .i64 a, .int .i64 b, .int .i64 c, v1, .slice pto n cto, v3, v4] 54 _ rfl
 clear hto hjs hjn
 go_enter Try.func46, Try.ntmps46
 go_upto_region 1 with fail
 generalize w.alloc (.cells #[.int .i64 a, .int .i64 b, .int .i64 c, v1, .slice pto n cto, v3, v4] 54) = wb at *
 have HB := Lib.hid hb0
 have k2 : wb.cell? ⟨w.heap.size, 4, none⟩ = some (.slice pto n cto) := by rw [cell_of hc0]; rfl
 clear hb0 hc0
 generalize hbx : w.heap.size = bx at k2
 have HBX := Lib.hid hbx
 clear hbx
 go_wp2_with fail
 go_loopw [2, 3, 16] (fun x y t' wr => wr = wb ∧ ∃ k : Nat, k ≤ js.length ∧ t' = .int .i64 k ∧ x = .int .i64 ((alt s t k).val : Int) ∧ y = .int .i64 ((alt t s k).val : Int) ∧ Hid (∀ i (h : i < js.length), i < k → f js[i] (alt s t i).val = nxt js i beh)) (fun _ _ t' _ => js.length - (intOf t').toNat)
 case atStart => exact ⟨rfl, 0, by omega, rfl, rfl, rfl, Hi (fun i h h2 => by omega)⟩
 case round =>
  obtain ⟨rfl, k, hk, rfl, rfl, rfl, HK⟩ := hrel
  by_cases hlt : k < js.length
  · obtain ⟨b0, o0, hpj, hr⟩ := HJS.out.below HB.out (by intro h; simp at h; rw [h] at hlt; simp at hlt)
    have q0 := hr k (by simpa using hlt)
    rw [List.getElem_map] at q0
    subst hpj
    have hjk := HJN.out _ (List.getElem_mem hlt)
    obtain ⟨b1, o1, hpt, ht⟩ := HTO.out.below HB.out (by omega)
    have q1 := ht js[k] (alt s t k).val hjk (alt s t k).isLt
    subst hpt
    have HKE := Hi (And.intro (fun (h : f js[k] (alt s t k).val = nxt js k beh) => (fun i (hi : i < js.length) (h2 : i < k + 1) => (by
     by_cases e : i = k
     · subst e; exact h
     · exact HK.out i hi (by omega) : f js[i] (alt s t i).val = nxt js i beh))) (fun (h : f js[k] (alt s t k).val ≠ nxt js k beh) => (fun hl => h (hl k hlt) : ¬ RLeads f js s t beh)))
    have k1 : (k : Int) < (js.length : Int) := by omega
    have k3 : (0 : Int) ≤ (k : Int) := by omega
    have k4 : IntKind.i64.wrap ((k : Int) + 1) = (k : Int) + 1 := by rw [IntKind.wrap_i64]; omega
    have a1 : ((alt s t k).val : Int) < 3 := by have := (alt s t k).isLt; omega
    have a2 : (0 : Int) ≤ ((alt s t k).val : Int) := by omega
    have e1 := alt_succ s t k
    have e2 := alt_succ t s k
    have HE := Hi (And.intro e1 e2)
    clear ht e1 e2
    by_cases hk1 : k + 1 < js.length
    · have hn : nxt js k beh = (js[k + 1] : Int) := by unfold nxt; rw [dif_pos hk1]
      have q2 := hr (k + 1) (by simpa using hk1)
      rw [List.getElem_map] at q2
      rw [hn] at HKE
      have k5 : (k : Int) + 1 < (js.length : Int) := by omega
      have k6 : (0 : Int) ≤ (k : Int) + 1 := by omega
      have k7 : ((k : Int) + 1).toNat = k + 1 := by omega
      clear hr hn
      generalize js[k] = jk at *
      generalize js[k + 1] = jn at *
      have j1 : (jk : Int) < (n : Int) := by omega
      have j2 : (0 : Int) ≤ (jk : Int) := by omega
      generalize alt s t k = ax at *
      generalize alt t s k = ay at *
      generalize f jk ax.val = fv at *
      by_cases hf : fv = (jn : Int)
      · subst hf
        have HN := Hi (HKE.out.1 rfl)
        clear HKE
        go_wp2_with fail
        go_roundw
        case rel => exact ⟨trivial, k + 1, by omega, by go_num, by rw [HE.out.1], by rw [HE.out.2], Lib.hid HN.out⟩
        case measure => simp [intOf]; omega
      · have HN := Hi (HKE.out.2 hf)
        have f0 : (fv == (jn : Int)) = false := by simpa using hf
        clear HKE hf
        go_wp2_with fail
        exact HNO.out _ HN.out (HBX.out ▸ HB.out)
    · have hn : nxt js k beh = beh := by unfold nxt; rw [dif_neg hk1]
      rw [hn] at HKE
      have k5 : ¬ (k : Int) + 1 < (js.length : Int) := by omega
      clear hr hn
      generalize js[k] = jk at *
      have j1 : (jk : Int) < (n : Int) := by omega
      have j2 : (0 : Int) ≤ (jk : Int) := by omega
      generalize alt s t k = ax at *
      generalize alt t s k = ay at *
      generalize f jk ax.val = fv at *
      by_cases hf : fv = beh
      · subst hf
        have HN := Hi (HKE.out.1 rfl)
        clear HKE
        go_wp2_with fail
        go_roundw
        case rel => exact ⟨trivial, k + 1, by omega, by go_num, by rw [HE.out.1], by rw [HE.out.2], Lib.hid HN.out⟩
        case measure => simp [intOf]; omega
      · have HN := Hi (HKE.out.2 hf)
        have f0 : (fv == beh) = false := by simpa using hf
        clear HKE hf
        go_wp2_with fail
        exact HNO.out _ HN.out (HBX.out ▸ HB.out)
  · have k1 : ¬ (k : Int) < (js.length : Int) := by omega
    have HN : Hid (RLeads f js s t beh) := Hi (fun i hi => HK.out i hi (by omega))
    go_wp2_with fail
    exact HYES.out _ HN.out (HBX.out ▸ HB.out)
end Go.Proofs.Ytkndmibmmoikbaa
namespace Go.Proofs.Ytkndmibmmoikbaa
open Go.RowKit
open Cox (Tl)
def RW {K : Type} [Cox.OR K] (W : Cox.Tri K) (a b c : Int) : Prop := ∀ (l : List (Fin 3)), l.length ≤ 780 → ∀ w, Calls Try.prog 38 #[oval a b c, .string (wb l)] w fun e w' => e = .returned (.string (wb (Cox.nf W l))) ∧ Below w.heap.size w w'
def zidx (ws : List (List (Fin 3))) (u : List (Fin 3)) : Int := match ws.findIdx? (fun x => decide (x = u)) with
 | some i => i
 | none => -1
theorem place_wb (ws : List (List (Fin 3))) (u : List (Fin 3)) : place (ws.map wb) (wb u) = zidx ws u := by
 unfold place zidx
 rw [List.findIdx?_map]
 have : ((fun x : ByteArray => x.toList == (wb u).toList) ∘ wb) = fun x => decide (x = u) := by
  funext x
  exact wb_beq x u
 rw [this]
 rfl
theorem zidx_mem {ws : List (List (Fin 3))} {u : List (Fin 3)} (h : u ∈ ws) : ∃ i, ∃ h : i < ws.length, zidx ws u = (i : Int) ∧ ws[i] = u := by
 unfold zidx
 cases hf : ws.findIdx? (fun x => decide (x = u)) with
 | none =>
  rw [List.findIdx?_eq_none_iff] at hf
  have := hf u h
  simp at this
 | some i =>
  rw [List.findIdx?_eq_some_iff_getElem] at hf
  obtain ⟨hi, he, _⟩ := hf
  exact ⟨i, hi, rfl, by simpa using he⟩
theorem zidx_not {ws : List (List (Fin 3))} {u : List (Fin 3)} (h : u ∉ ws) : zidx ws u = -1 := by
 unfold zidx
 cases hf : ws.findIdx? (fun x => decide (x = u)) with
 | none => rfl
 | some i =>
  rw [List.findIdx?_eq_some_iff_getElem] at hf
  obtain ⟨hi, he, _⟩ := hf
  exact (h (by have : ws[i] = u := by simpa using he
               rw [← this]; exact List.getElem_mem hi)).elim
theorem zidx_neg {ws : List (List (Fin 3))} {u : List (Fin 3)} : zidx ws u < 0 ↔ u ∉ ws := by
 constructor
 · intro h hm
   obtain ⟨i, _, hi, _⟩ := zidx_mem hm
   omega
 · intro h; rw [zidx_not h]; omega
theorem zidx_inj {ws : List (List (Fin 3))} {u v : List (Fin 3)} (hu : u ∈ ws) (h : zidx ws u = zidx ws v) : u = v := by
 obtain ⟨i, hi, h1, h2⟩ := zidx_mem hu
 by_cases hv : v ∈ ws
 · obtain ⟨j, hj, h3, h4⟩ := zidx_mem hv
   have : i = j := by omega
   subst this
   rw [← h2, ← h4]
 · have := zidx_neg.2 hv
   omega
def uidx (ws : List (List (Fin 3))) (u : List (Fin 3)) : Nat := (zidx ws u).toNat
theorem uidx_mem {ws : List (List (Fin 3))} {u : List (Fin 3)} (h : u ∈ ws) : (uidx ws u : Int) = zidx ws u ∧ ∃ h : uidx ws u < ws.length, ws[uidx ws u] = u := by
 obtain ⟨i, hi, h1, h2⟩ := zidx_mem h
 have : uidx ws u = i := by unfold uidx; omega
 refine ⟨by rw [this, h1], by rw [this]; exact hi, ?_⟩
 simp only [this]; exact h2
def RTimes (o r : Int) (n : Nat) (all : Int) : Prop := if o = 0 then r = 0 else 1 ≤ r ∧ r ≤ all ∧ r * n = all
theorem rtimes_iff {o r : Int} {n : Nat} {k : Int} (ho : 0 ≤ o) (hk : k = 1 ∨ k = 2) : RTimes o r n (o * k) ↔ timesP n (o * k) r := by
 unfold RTimes timesP
 by_cases h : o = 0
 · subst h
   rw [if_pos rfl]
   constructor
   · rintro rfl; simp
   · rintro ⟨h1, h2, h3⟩
     have : (0 : Int) * k = 0 := by simp
     omega
 · rw [if_neg h]
   have hp : 0 < o * k := by rcases hk with rfl | rfl <;> omega
   constructor
   · rintro ⟨h1, h2, h3⟩; exact ⟨by omega, h2, h3⟩
   · rintro ⟨h1, h2, h3⟩
     refine ⟨?_, h2, h3⟩
     rcases Int.lt_or_le 0 r with h4 | h4
     · omega
     · have : r = 0 := by omega
       subst this
       simp at h3
       omega
theorem rrounds_any (a b c : Int) (v1 v2 v3 v4 : Value) (w : World) (pt : Option Addr) (ct : Nat) (y : CycD) (hi : isMir y.i) (hj : isMir y.j) (n : Nat) (hn : n ≤ 1000) (all : Int) (hall : all ≤ 1000) :
 Calls Try.prog 47 #[.agg #[.int .i64 a, .int .i64 b, .int .i64 c, v1, v2, v3, v4], cval pt ct y, .int .i64 (n : Nat), .int .i64 all] w fun e w' => ∃ bb : Bool, e = .returned (.bool bb) ∧ (bb = true ↔ RTimes (ordz a b c y.i y.j) y.rounds n all) ∧ Below w.heap.size w w' := by
 obtain ⟨Q, hQ⟩ : ∃ Q : Ending → World → Prop, Q = fun e w' => ∃ bb : Bool, e = .returned (.bool bb) ∧ (bb = true ↔ RTimes (ordz a b c y.i y.j) y.rounds n all) ∧ Below w.heap.size w w' := ⟨_, rfl⟩
 rw [← hQ]
 have HNO : Hid (∀ w', ¬ RTimes (ordz a b c y.i y.j) y.rounds n all → Below w.heap.size w w' → Q (.returned (.bool false)) w') := Hi (fun w' hx hb => by rw [hQ]; exact ⟨false, rfl, ⟨fun h => (by cases h), fun h => (hx h).elim⟩, hb⟩)
 have HYES : Hid (∀ w', RTimes (ordz a b c y.i y.j) y.rounds n all → Below w.heap.size w w' → Q (.returned (.bool true)) w') := Hi (fun w' hx hb => by rw [hQ]; exact ⟨true, rfl, ⟨fun _ => hx, fun _ => rfl⟩, hb⟩)
 clear hQ
 have BW := Hi (fun w => between_any a b c y.i y.j hi hj w)
 have HO : Hid ((if y.i + y.j = 1 then a else if y.i + y.j = 3 then b else c) = ordz a b c y.i y.j) := Lib.hid rfl
 rw [HO.out] at BW
 unfold cval oval at *
 generalize ordz a b c y.i y.j = o at *
 obtain ⟨tl, yi, yj, r, mir⟩ := y
 simp only at *
 clear hi hj HO
 have hb0 : Below w.heap.size w ((w.alloc (.cells #[.int .i64 a, .int .i64 b, .int .i64 c, v1, v2, v3, v4] 54)).alloc (.cells #[.slice pt tl.length ct, .int .i64 yi, .int .i64 yj, .int .i64 r, .bool mir] 48)) := ((Below.refl _ _).alloc (Nat.le_refl _) _).alloc (by simp) _
 have hc0 : ((w.alloc (.cells #[.int .i64 a, .int .i64 b, .int .i64 c, v1, v2, v3, v4] 54)).alloc (.cells #[.slice pt tl.length ct, .int .i64 yi, .int .i64 yj, .int .i64 r, .bool mir] 48)).heap[w.heap.size]? = some (.cells #[.int .i64 a, .int .i64 b, .int .i64 c, v1, v2, v3, v4] 54 (0, 0)) := str_old _ _ (str_new _ _ _ _ rfl)
 have hc1 : ((w.alloc (.cells #[.int .i64 a, .int .i64 b, .int .i64 c, v1, v2, v3, v4] 54)).alloc (.cells #[.slice pt tl.length ct, .int .i64 yi, .int .i64 yj, .int .i64 r, .bool mir] 48)).heap[w.heap.size + 1]? = some (.cells #[.slice pt tl.length ct, .int .i64 yi, .int .i64 yj, .int .i64 r, .bool mir] 48 (0, 0)) := str_new _ _ _ _ (by simp)
 go_enter Try.func47, Try.ntmps47
 go_upto_region 1 with fail
 generalize (w.alloc (.cells #[.int .i64 a, .int .i64 b, .int .i64 c, v1, v2, v3, v4] 54)).alloc (.cells #[.slice pt tl.length ct, .int .i64 yi, .int .i64 yj, .int .i64 r, .bool mir] 48) = wb at *
 have HB := Hi (And.intro hb0 (And.intro hc0 hc1))
 have k0 : wb.cell? ⟨w.heap.size, 0, none⟩ = some (.int .i64 a) := by rw [cell_of hc0]; rfl
 have k1 : wb.cell? ⟨w.heap.size, 1, none⟩ = some (.int .i64 b) := by rw [cell_of hc0]; rfl
 have k2 : wb.cell? ⟨w.heap.size, 2, none⟩ = some (.int .i64 c) := by rw [cell_of hc0]; rfl
 have k3 : wb.cell? ⟨w.heap.size + 1, 1, none⟩ = some (.int .i64 yi) := by rw [cell_of hc1]; rfl
 have k4 : wb.cell? ⟨w.heap.size + 1, 2, none⟩ = some (.int .i64 yj) := by rw [cell_of hc1]; rfl
 have hlt : w.heap.size + 1 < wb.heap.size := (Array.getElem?_eq_some_iff.1 hc1).1
 have HLT := Lib.hid hlt
 clear hb0 hc0 hc1 hlt
 generalize hbx : w.heap.size = bx at k0 k1 k2 k3 k4
 have HBX := Lib.hid hbx
 clear hbx
 by_cases ho : o = 0
 · have o1 : (o == 0) = true := by simpa using ho
   have HRT : Hid (RTimes o r n all ↔ r = 0) := Hi (by unfold RTimes; rw [if_pos ho])
   clear ho
   go_upto_region 2 with (go_at_call 45; refine (BW.out _).mono ?_; rintro e w3 ⟨rfl, hb3⟩; have HB3 := Lib.hid hb3; have k9 : w3.cell? ⟨bx + 1, 3, none⟩ = some (.int .i64 r) := (by rw [cell_of ((HBX.out ▸ (hb3.block _ HLT.out).trans HB.out.2.2))]; rfl); clear hb3)
   have HE := Hi (HB.out.1.trans (HB3.out.mono (by have := HLT.out; omega)))
   by_cases hr : r = 0
   · have r1 : (r == 0) = true := by simpa using hr
     have HX := Hi (HRT.out.2 hr)
     clear hr
     go_wp2_with fail
     exact HYES.out _ HX.out HE.out
   · have r1 : (r == 0) = false := by simpa using hr
     have HX := Hi (fun h => hr (HRT.out.1 h))
     clear hr
     go_wp2_with fail
     exact HNO.out _ HX.out HE.out
 · have o1 : (o == 0) = false := by simpa using ho
   have HRT : Hid (RTimes o r n all ↔ 1 ≤ r ∧ r ≤ all ∧ r * n = all) := Hi (by unfold RTimes; rw [if_neg ho])
   clear ho
   go_upto_region 3 with (go_at_call 45; refine (BW.out _).mono ?_; rintro e w3 ⟨rfl, hb3⟩; have HB3 := Lib.hid hb3; have k9 : w3.cell? ⟨bx + 1, 3, none⟩ = some (.int .i64 r) := (by rw [cell_of ((HBX.out ▸ (hb3.block _ HLT.out).trans HB.out.2.2))]; rfl); clear hb3)
   have HE := Hi (HB.out.1.trans (HB3.out.mono (by have := HLT.out; omega)))
   by_cases h0 : 1 ≤ r
   case neg =>
    have d0 : decide (r ≥ 1) = false := decide_eq_false h0
    have HX := Hi (fun h => h0 (HRT.out.1 h).1)
    clear h0
    go_wp2_with fail
    exact HNO.out _ HX.out HE.out
   case pos =>
    have d0 : decide (r ≥ 1) = true := decide_eq_true h0
    by_cases h1 : r ≤ all
    case neg =>
     have d1 : decide (r ≤ all) = false := decide_eq_false h1
     have HX := Hi (fun h => h1 (HRT.out.1 h).2.1)
     clear h1
     go_wp2_with fail
     exact HNO.out _ HX.out HE.out
    case pos =>
     have d1 : decide (r ≤ all) = true := decide_eq_true h1
     have hb : r * (n : Int) ≤ 1000 * 1000 := Int.mul_le_mul (by omega) (by omega) (by omega) (by omega)
     have hb0 : 0 ≤ r * (n : Int) := Int.mul_nonneg (by omega) (by omega)
     have hw : IntKind.i64.wrap (r * (n : Int)) = r * (n : Int) := by rw [IntKind.wrap_i64]; omega
     by_cases h2 : r * (n : Int) = all
     case neg =>
      have HX := Hi (fun h => h2 (HRT.out.1 h).2.2)
      have d2 : (r * (n : Int) == all) = false := by simpa using h2
      clear hb hb0 h2
      go_wp2_with fail
      exact HNO.out _ HX.out HE.out
     case pos =>
      have HX := Hi (HRT.out.2 ⟨h0, h1, h2⟩)
      have d2 : (r * (n : Int) == all) = true := by simpa using h2
      clear hb hb0 h2
      go_wp2_with fail
      exact HYES.out _ HX.out HE.out
end Go.Proofs.Ytkndmibmmoikbaa
namespace Go.Proofs.Ytkndmibmmoikbaa
open Go.RowKit
open Cox (Tl)
theorem info3 : Option.map (fun i => (i.zero, i.size, i.bytes)) (Try.prog.info? 3) = some (some (.int .i64 0), 1, 8) := by kernel_rfl
theorem cell_stays {w1 w2 : World} (hb : Below w1.heap.size w1 w2) {p : Addr} {v : Value} (h : w1.cell? p = some v) : w2.cell? p = some v := (hb.cell (World.block_lt_of_cell? w1 _ h)).trans h
structure PlSt {K : Type} [Cox.OR K] (W : Cox.Tri K) (w : World) (ws : List (List (Fin 3))) (y : CycD) (H : Nat) (k : Nat) (ov : Value) (wr : World) : Prop where
 bel : Below w.heap.size w wr
 big : H ≤ wr.heap.size
 row : wr.ownsRow H 3 1 ov k (((tws W y.tiles).take k).map fun u => .int .i64 (uidx ws u : Nat))
 good : ∀ s, s ∈ y.tiles.take k → cw s = 0
 inn : ∀ u, u ∈ (tws W y.tiles).take k → u ∈ ws
 nodup : ((tws W y.tiles).take k).Nodup
theorem rplaces_any {K : Type} [Cox.OR K] {W : Cox.Tri K} {a b c : Int} (hrw : RW W a b c) (ws : List (List (Fin 3))) (hwl : ws.length ≤ 1000) (v2 v3 v4 : Value) (w : World) (pt ptt : Option Addr) (ct ctt : Nat) (hts : StrsAt w pt (ws.map wb)) (y : CycD) (hty : StrsAt w ptt y.tiles) (hyl : y.tiles.length ≤ 1000) (hys : ∀ s, s ∈ y.tiles → s.size ≤ maxLen) :
 Calls Try.prog 44 #[.agg #[.int .i64 a, .int .i64 b, .int .i64 c, .slice pt ws.length ct, v2, v3, v4], cval ptt ctt y] w fun e w' => ∃ (pv : Value) (bb : Bool), e = .returned (.tuple #[pv, .bool bb]) ∧ Below w.heap.size w w' ∧ (bb = true ↔ y.words W ws ∧ 0 < y.tiles.length) ∧
  (bb = true → ∃ pj cj, pv = .slice pj y.tiles.length cj ∧ IntsAt w' pj ((tws W y.tiles).map fun u => (uidx ws u : Int)) ∧ ∀ q o, pj = some ⟨q, o, none⟩ → w.heap.size ≤ q) := by
 obtain ⟨Q, hQ⟩ : ∃ Q : Ending → World → Prop, Q = fun e w' => ∃ (pv : Value) (bb : Bool), e = .returned (.tuple #[pv, .bool bb]) ∧ Below w.heap.size w w' ∧ (bb = true ↔ y.words W ws ∧ 0 < y.tiles.length) ∧
  (bb = true → ∃ pj cj, pv = .slice pj y.tiles.length cj ∧ IntsAt w' pj ((tws W y.tiles).map fun u => (uidx ws u : Int)) ∧ ∀ q o, pj = some ⟨q, o, none⟩ → w.heap.size ≤ q) := ⟨_, rfl⟩
 rw [← hQ]
 have HNO : Hid (∀ w' v, ¬ y.words W ws → Below w.heap.size w w' → Q (.returned (.tuple #[v, .bool false])) w') := Hi (fun w' v hx hb => by rw [hQ]; exact ⟨v, false, rfl, hb, ⟨fun h => (by cases h), fun h => (hx h.1).elim⟩, fun h => (by cases h)⟩)
 have HYES : Hid (∀ w' pv (bb : Bool), bb = decide (0 < y.tiles.length) → PlSt W w ws y (w.heap.size + 2) y.tiles.length pv w' → Q (.returned (.tuple #[pv, .bool bb])) w') := Hi (fun w' pv bb hbb hp => by
  rw [hQ]
  have e1 : y.tiles.take y.tiles.length = y.tiles := List.take_of_length_le (Nat.le_refl _)
  have e2 : (tws W y.tiles).take y.tiles.length = tws W y.tiles := List.take_of_length_le (by rw [tws_length]; exact Nat.le_refl _)
  have h1 := hp.good
  have h2 := hp.inn
  have h3 := hp.nodup
  have h4 := hp.row
  rw [e1] at h1
  rw [e2] at h2 h3 h4
  refine ⟨pv, bb, rfl, hp.bel, ⟨fun h => ⟨⟨h1, h2, h3⟩, ?_⟩, fun h => by rw [hbb]; exact decide_eq_true h.2⟩, fun h => ?_⟩
  · rw [h] at hbb; exact of_decide_eq_true hbb.symm
  · have hl : 0 < y.tiles.length := by rw [h] at hbb; exact of_decide_eq_true hbb.symm
    have hn : (tws W y.tiles).length = y.tiles.length := tws_length W _
    obtain ⟨g, cap, hv, _⟩ := owns_at h4 (i := 0) (by simp; rw [hn]; omega)
    refine ⟨some ⟨g, 0, none⟩, cap, hv, fun _ => ⟨g, 0, rfl, fun i hi => ?_⟩, fun q o hq => by have h8 := (owns_lt h4 (g := g) (by rw [hv]; rfl)).2; simp at hq; omega⟩
    obtain ⟨g', cap', hv', hc⟩ := owns_at h4 (i := i) (by simpa using hi)
    have hg : g = g' := by rw [hv] at hv'; simp at hv'; exact hv'.1
    rw [Nat.zero_add, hg, hc, List.getElem_map, List.getElem_map])
 clear hQ
 have HTS := Lib.hid hts
 have HTY := Lib.hid hty
 have HYS := Lib.hid hys
 have CW := Hi (fun s hs w => checkword_any s hs w)
 have HRW := Lib.hid hrw
 unfold cval
 have hb0 : Below w.heap.size w ((w.alloc (.cells #[.int .i64 a, .int .i64 b, .int .i64 c, .slice pt ws.length ct, v2, v3, v4] 54)).alloc (.cells #[.slice ptt y.tiles.length ctt, .int .i64 y.i, .int .i64 y.j, .int .i64 y.rounds, .bool y.mir] 48)) := ((Below.refl _ _).alloc (Nat.le_refl _) _).alloc (by simp) _
 have hs0 : ((w.alloc (.cells #[.int .i64 a, .int .i64 b, .int .i64 c, .slice pt ws.length ct, v2, v3, v4] 54)).alloc (.cells #[.slice ptt y.tiles.length ctt, .int .i64 y.i, .int .i64 y.j, .int .i64 y.rounds, .bool y.mir] 48)).heap.size = w.heap.size + 2 := by simp
 have hc0 : ((w.alloc (.cells #[.int .i64 a, .int .i64 b, .int .i64 c, .slice pt ws.length ct, v2, v3, v4] 54)).alloc (.cells #[.slice ptt y.tiles.length ctt, .int .i64 y.i, .int .i64 y.j, .int .i64 y.rounds, .bool y.mir] 48)).heap[w.heap.size]? = some (.cells #[.int .i64 a, .int .i64 b, .int .i64 c, .slice pt ws.length ct, v2, v3, v4] 54 (0, 0)) := str_old _ _ (str_new _ _ _ _ rfl)
 have hc1 : ((w.alloc (.cells #[.int .i64 a, .int .i64 b, .int .i64 c, .slice pt ws.length ct, v2, v3, v4] 54)).alloc (.cells #[.slice ptt y.tiles.length ctt, .int .i64 y.i, .int .i64 y.j, .int .i64 y.rounds, .bool y.mir] 48)).heap[w.heap.size + 1]? = some (.cells #[.slice ptt y.tiles.length ctt, .int .i64 y.i, .int .i64 y.j, .int .i64 y.rounds, .bool y.mir] 48 (0, 0)) := str_new _ _ _ _ (by simp)
 clear hts hty hys hrw
 go_enter Try.func44, Try.ntmps44
 go_upto_region 1 with fail
 generalize (w.alloc (.cells #[.int .i64 a, .int .i64 b, .int .i64 c, .slice pt ws.length ct, v2, v3, v4] 54)).alloc (.cells #[.slice ptt y.tiles.length ctt, .int .i64 y.i, .int .i64 y.j, .int .i64 y.rounds, .bool y.mir] 48) = wb0 at *
 have HB := Hi (And.intro hb0 (And.intro hc0 (And.intro hc1 hs0)))
 have k0 : wb0.cell? ⟨w.heap.size + 1, 0, none⟩ = some (.slice ptt y.tiles.length ctt) := by rw [cell_of hc1]; rfl
 have HP0 : Hid (PlSt W w ws y (w.heap.size + 2) 0 (.slice none 0 0) wb0 ∧ Below wb0.heap.size wb0 wb0) := Lib.hid ⟨⟨hb0, by omega, ⟨rfl, .inl ⟨rfl, rfl⟩⟩, by simp, by simp, by simp⟩, Below.refl _ _⟩
 clear hb0 hc0 hc1 hs0
 go_wp2_with fail
 clear k0
 go_loopw [6, 15] (fun o t wr => ∃ (k : Nat) (ov : Value), o = ov ∧ t = .int .i64 (k : Nat) ∧ k ≤ y.tiles.length ∧ Hid (PlSt W w ws y (w.heap.size + 2) k ov wr ∧ Below wb0.heap.size wb0 wr)) (fun _ t _ => y.tiles.length - (intOf t).toNat)
 case atStart => exact ⟨0, _, rfl, rfl, by omega, HP0⟩
 case round =>
  obtain ⟨k, ov, rfl, rfl, hk, HK⟩ := hrel
  by_cases hlt : k < y.tiles.length
  · obtain ⟨b0, o0, hpt, hr⟩ := (HTY.out.below HK.out.1.bel) (by intro h; rw [h] at hlt; simp at hlt)
    have q0 := hr k hlt
    subst hpt
    have k1 : (k : Int) < (y.tiles.length : Int) := by omega
    have k2 : (0 : Int) ≤ (k : Int) := by omega
    have CWk := Hi (fun w => CW.out y.tiles[k] (HYS.out _ (List.getElem_mem hlt)) w)
    have HLT := Lib.hid hlt
    have HAT : Hid ((tws W y.tiles)[k]? = some (Cox.nf W (unw y.tiles[k]))) := Hi (tws_at hlt)
    have HBAD : Hid (cw y.tiles[k] ≠ 0 → ¬ y.words W ws) := Hi (fun h e => h (e.1 _ (List.getElem_mem hlt)))
    have HTK : Hid (y.tiles.take (k + 1) = y.tiles.take k ++ [y.tiles[k]]) := Hi (List.take_succ_eq_append_getElem hlt)
    clear hr
    generalize y.tiles[k] = sk at *
    by_cases hcw : cw sk = 0
    case neg =>
     have HN := Hi (HBAD.out hcw)
     have z0 : (cw sk == 0) = false := by simpa using hcw
     clear hcw HBAD
     generalize cw sk = ce at *
     go_wp2_with (go_at_call 64; refine (CWk.out _).mono ?_; rintro e w4 ⟨rfl, rfl⟩)
     exact HNO.out _ _ HN.out HK.out.1.bel
    case pos =>
     obtain ⟨l, hsk, hl60⟩ : ∃ l, sk = wb l ∧ l.length ≤ 60 := ⟨_, (cw_unw hcw).1, (cw_unw hcw).2⟩
     have HCW := Lib.hid hcw
     rw [hcw] at CWk
     subst hsk
     rw [unw_wb] at HAT
     obtain ⟨u, hu⟩ : ∃ u, Cox.nf W l = u := ⟨_, rfl⟩
     rw [hu] at HAT
     have WL := Hi (fun w => HRW.out l (by omega) w)
     rw [hu] at WL
     unfold oval at WL
     have d0 : wr.drew.cell? ⟨w.heap.size, 0, none⟩ = some (.int .i64 a) := by rw [cell_drew_own]; exact cell_stays HK.out.2 (by rw [cell_of HB.out.2.1]; rfl)
     have d1 : wr.drew.cell? ⟨w.heap.size, 1, none⟩ = some (.int .i64 b) := by rw [cell_drew_own]; exact cell_stays HK.out.2 (by rw [cell_of HB.out.2.1]; rfl)
     have d2 : wr.drew.cell? ⟨w.heap.size, 2, none⟩ = some (.int .i64 c) := by rw [cell_drew_own]; exact cell_stays HK.out.2 (by rw [cell_of HB.out.2.1]; rfl)
     have d3 : wr.drew.cell? ⟨w.heap.size, 3, none⟩ = some (.slice pt ws.length ct) := by rw [cell_drew_own]; exact cell_stays HK.out.2 (by rw [cell_of HB.out.2.1]; rfl)
     have IX : Hid (∀ w5, Below wr.heap.size wr.drew w5 → Calls Try.prog 39 #[.slice pt ws.length ct, .string (wb u)] w5 fun e w' => e = .returned (.int .i64 (zidx ws u)) ∧ w' = w5) := Hi (fun w5 hb5 => by
      have hb6 : Below w.heap.size w w5 := HK.out.1.bel.trans (((Below.refl _ _).drew).trans (hb5.mono HK.out.1.bel.size))
      have := index_any (ws.map wb) (wb u) pt ct (by simp; omega) w5 (HTS.out.below hb6)
      rw [place_wb, List.length_map] at this
      exact this)
     clear hu hcw HBAD
     go_upto_region 7 with (go_at_call 64; refine (CWk.out _).mono ?_; rintro e w4 ⟨rfl, h4⟩; subst w4)
     refine wp_region_held_drew (S := fun w' => w'.cell? ⟨w.heap.size, 3, none⟩ = some (.slice pt ws.length ct) ∧ w'.cell? ⟨w.heap.size, 0, none⟩ = some (.int .i64 a) ∧ w'.cell? ⟨w.heap.size, 1, none⟩ = some (.int .i64 b) ∧ w'.cell? ⟨w.heap.size, 2, none⟩ = some (.int .i64 c)) (by kernel_rfl) (⟨d3, d0, d1, d2⟩) (fun hHeld => ?_)
     refine ty 0 hHeld ?_
     try simp only [ly]
     refine ty 1 hHeld ?_
     try simp only [ly]
     refine ty 2 hHeld ?_
     try simp only [ly]
     refine ty 3 hHeld ?_
     try simp only [ly]
     refine ty 4 hHeld ?_
     try simp only [ly]
     refine take_step (i := 5) rfl (by kernel_rfl) (fun K' hK => ?_)
     go_simp
     go_at_call 38
     refine (WL.out _).mono ?_
     rintro e w5 ⟨rfl, hb5⟩
     have HB5 := Lib.hid hb5
     have s0 := cell_stays hb5 d0
     have s1 := cell_stays hb5 d1
     have s2 := cell_stays hb5 d2
     have s3 := cell_stays hb5 d3
     clear hb5
     refine hK.out _ _ (⟨s3, s0, s1, s2⟩) (fun hHeld => ?_)
     clear hK K'
     try simp only [ly]
     refine take_step (i := 6) rfl (by kernel_rfl) (fun K' hK => ?_)
     go_simp
     go_at_call 39
     refine (IX.out _ HB5.out).mono ?_
     rintro e w6 ⟨rfl, rfl⟩
     refine hK.out _ _ (⟨s3, s0, s1, s2⟩) (fun hHeld => ?_)
     clear hK K'
     try simp only [ly]
     refine ty 7 hHeld ?_
     try simp only [ly]
     refine wpAnyH_done (by kernel_rfl) ?_ _
     have HK5 : Hid (PlSt W w ws y (w.heap.size + 2) k u6 w6 ∧ Below wb0.heap.size wb0 w6) := Hi (by
      have hb6 : Below wr.heap.size wr w6 := ((Below.refl _ _).drew).trans HB5.out
      refine ⟨⟨HK.out.1.bel.trans (hb6.mono HK.out.1.bel.size), Nat.le_trans HK.out.1.big hb6.size, owns_keep HK.out.1.row (fun g hg => hb6.block _ (owns_lt HK.out.1.row hg).1), HK.out.1.good, HK.out.1.inn, HK.out.1.nodup⟩, HK.out.2.trans (hb6.mono HK.out.2.size)⟩)
     clear d0 d1 d2 d3 s0 s1 s2 s3 WL IX CWk q0
     by_cases hin : u ∈ ws
     case neg =>
      have z1 : zidx ws u < 0 := zidx_neg.2 hin
      have z2 : decide (zidx ws u < 0) = true := decide_eq_true z1
      have HN : Hid (¬ y.words W ws) := Hi (fun e => hin (e.2.1 _ (List.mem_of_getElem? HAT.out)))
      clear hin
      go_wp2_with fail
      exact HNO.out _ _ HN.out HK5.out.1.bel
     case pos =>
      have hui := uidx_mem hin
      have z0 := hui.1
      rw [← z0]
      have z1 : ¬ (uidx ws u : Int) < 0 := by omega
      have HUI := Hi (And.intro hin hui)
      have hov : ∃ pq cap, u6 = .slice pq k cap := by
       rcases HK5.out.1.row.2 with ⟨h1, h2⟩ | ⟨g, cap, cur, hv, _⟩
       · exact ⟨none, 0, by rw [h1, h2]⟩
       · exact ⟨_, cap, hv⟩
      obtain ⟨pq, cap, hov⟩ := hov
      have HOV := Lib.hid hov
      subst hov
      have HLK : Hid (k ≤ (tws W y.tiles).length) := Hi (by rw [tws_length]; exact Nat.le_of_lt HLT.out)
      clear hin hui z0
      generalize hjd : uidx ws u = jd at *
      go_wp2_with fail
      go_loopw [33] (fun t wq => wq = w6 ∧ ∃ m : Nat, m ≤ k ∧ t = .int .i64 (m : Nat) ∧ Hid (∀ i (h : i < (tws W y.tiles).length), i < m → uidx ws (tws W y.tiles)[i] ≠ jd)) (fun t _ => k - (intOf t).toNat)
      case atStart => exact ⟨rfl, 0, by omega, rfl, Hi (fun i h h2 => by omega)⟩
      case round =>
       obtain ⟨rfl, m, hm, rfl, HM⟩ := hrel
       by_cases hlm : m < k
       · have htl : m < (tws W y.tiles).length := by have := HLK.out; omega
         obtain ⟨g, cap', hv, hc⟩ := owns_at HK5.out.1.row (i := m) (by rw [List.length_map, List.length_take]; have := HLK.out; omega)
         rw [List.getElem_map, List.getElem_take] at hc
         have hg : pq = some ⟨g, 0, none⟩ := by simp at hv; exact hv.1
         subst hg
         have m1 : (m : Int) < (k : Int) := by omega
         have m2 : (0 : Int) ≤ (m : Int) := by omega
         clear hv
         by_cases he : uidx ws (tws W y.tiles)[m] = jd
         · have HN : Hid (¬ y.words W ws) := Hi (fun e => by
            have hmin := e.2.1 _ (List.getElem_mem htl)
            have h1 := (uidx_mem hmin).1
            have h2 := HUI.out.2.1
            have h3 : (tws W y.tiles)[m] = u := zidx_inj hmin (by rw [← h1, ← h2, he])
            obtain ⟨hkl, h4⟩ := List.getElem?_eq_some_iff.1 HAT.out
            have h5 := List.nodup_iff_pairwise_ne.1 e.2.2
            rw [List.pairwise_iff_getElem] at h5
            exact h5 m k htl hkl hlm (h3.trans h4.symm))
           rw [he] at hc
           have j1 : ((jd : Int) == (jd : Int)) = true := by simp
           clear he
           go_wp2_with fail
           exact HNO.out _ _ HN.out HK5.out.1.bel
         · have HE : Hid (∀ i (h : i < (tws W y.tiles).length), i < m + 1 → uidx ws (tws W y.tiles)[i] ≠ jd) := Hi (fun i hi h2 => by
            by_cases e : i = m
            · subst e; exact he
            · exact HM.out i hi (by omega))
           generalize uidx ws (tws W y.tiles)[m] = jm at *
           have j1 : ((jm : Int) == (jd : Int)) = false := by
            have : (jm : Int) ≠ (jd : Int) := by omega
            simpa using this
           clear he
           go_wp2_with fail
           go_roundw
           case rel => exact ⟨trivial, m + 1, by omega, by go_num, HE⟩
           case measure => simp [intOf]; omega
       · have hmk : m = k := by omega
         subst hmk
         have m1 : ¬ (m : Int) < (m : Int) := by omega
         have HNI : Hid (u ∉ (tws W y.tiles).take m) := Hi (fun h => by
          obtain ⟨i, hi, he⟩ := List.getElem_of_mem h
          rw [List.length_take] at hi
          rw [List.getElem_take] at he
          exact HM.out i (by omega) (by omega) (by rw [he, hjd]))
         obtain ⟨i3, hi3, hz0, hz1, hz2⟩ := info_parts info3
         have a1 : m + 1 ≤ maxLen := by unfold maxLen; omega
         have a2 : (m + 1) * 8 ≤ 140737488355328 := by omega
         have HOW : Hid (∀ o, (wr.alloc o).ownsRow (w.heap.size + 2) 3 1 (.slice pq m cap) m (((tws W y.tiles).take m).map fun u => .int .i64 (uidx ws u : Nat))) := Hi (fun o => owns_keep HK5.out.1.row (fun g hg => Below.heap_alloc _ _ _ (owns_lt HK5.out.1.row hg).1))
         have HHS : Hid (∀ o, w.heap.size + 2 ≤ (wr.alloc o).heap.size) := Hi (fun o => by have := HK5.out.1.big; simp; omega)
         go_wp2_with (at_builtin; refine wpList_append_lies _ rfl (.tmp 41) (.tmp 43) 33 rfl (w.heap.size + 2) 3 i3 _ 1 8 Try.underlying33 hi3 hz0 hz1 hz2 rfl (by decide) (.slice pq m cap) m (((tws W y.tiles).take m).map fun u => .int .i64 (uidx ws u : Nat)) rfl (HOW.out _) ⟨wr.heap.size, 0, none⟩ 1 1 [.int .i64 (jd : Int)] rfl rfl (World.news_of_block (str_new _ _ _ _ rfl)) (by intro u hu; simp at hu; subst hu; rfl) (by decide) a1 a2 (HHS.out _) _ rfl ?_; intro g9 cap9 w9 hown9 hgr9 hat9 hlt9; have H9 := Hi (And.intro hown9 (And.intro hgr9 hat9)); clear hown9 hgr9 hat9 hlt9)
         have htl : m < (tws W y.tiles).length := by have := HLT.out; rw [tws_length]; exact this
         have htk : (tws W y.tiles).take (m + 1) = (tws W y.tiles).take m ++ [u] := by
          rw [List.take_succ_eq_append_getElem htl, (List.getElem?_eq_some_iff.1 HAT.out).2]
         have hgrow : ∀ B, B ≤ w.heap.size + 2 → Below B wr w9 := fun B hB => by
          have hbig := HK5.out.1.big
          refine Below.grown (((Below.refl _ _).alloc (by omega) _)) H9.out.2.1 (by simp; omega) (fun g hg => ?_)
          have := owns_lt HK5.out.1.row hg
          omega
         refine ⟨⟨m + 1, _, rfl, by go_num, HLT.out, Lib.hid ⟨⟨HK5.out.1.bel.trans (hgrow _ (by omega)), ?_, ?_, ?_, ?_, ?_⟩, HK5.out.2.trans ?_⟩⟩, ?_⟩
         · have := (hgrow 0 (by omega)).size
           have hbig := HK5.out.1.big
           omega
         · rw [htk, List.map_append]
           have h9 := H9.out.1
           rw [← hjd] at h9
           exact h9
         · rw [HTK.out]
           intro s hs
           rcases List.mem_append.1 hs with hs | hs
           · exact HK5.out.1.good s hs
           · simp at hs; rw [hs]; exact HCW.out
         · rw [htk]
           intro v hv
           rcases List.mem_append.1 hv with hv | hv
           · exact HK5.out.1.inn v hv
           · simp at hv; rw [hv]; exact HUI.out.1
         · rw [htk, List.nodup_append]
           exact ⟨HK5.out.1.nodup, by simp, fun v hv z hz => by simp at hz; subst hz; exact fun e => HNI.out (e ▸ hv)⟩
         · have := HB.out.2.2.2
           exact hgrow _ (by omega)
         · simp [intOf]
           have := HLT.out
           omega
  · have hke : k = y.tiles.length := by omega
    subst hke
    have k1 : ¬ (y.tiles.length : Int) < (y.tiles.length : Int) := by omega
    have hov : ∃ pq cap, u6 = .slice pq y.tiles.length cap := by
     rcases HK.out.1.row.2 with ⟨h1, h2⟩ | ⟨g, cap, cur, hv, _⟩
     · exact ⟨none, 0, by rw [h1, h2]⟩
     · exact ⟨_, cap, hv⟩
    obtain ⟨pq, cap, hov⟩ := hov
    subst hov
    by_cases hp : 0 < y.tiles.length
    · have d0 : decide (0 < y.tiles.length) = true := decide_eq_true hp
      have HD := Lib.hid d0
      clear hp
      go_wp2_with fail
      exact HYES.out _ _ true HD.out.symm HK.out.1
    · have d0 : decide (0 < y.tiles.length) = false := decide_eq_false hp
      have HD := Lib.hid d0
      clear hp
      go_wp2_with fail
      exact HYES.out _ _ false HD.out.symm HK.out.1
end Go.Proofs.Ytkndmibmmoikbaa
