/- Chapter 10: Rf10 Rf11 Lw0 Lw1. -/
import Derived.Test.YtkndmibmmoikbaaC36
set_option linter.all false
set_option maxRecDepth 100000
set_option maxHeartbeats 16000000
namespace Go.Proofs.Ytkndmibmmoikbaa
open Go.RowKit
open Cox (Tl)
def FtNext {K : Type} [Cox.OR K] (W : Cox.Tri K) (a b c : Int) (ws : List (List (Fin 3))) (gs : List (EdgeW × List (Fin 3))) (cys : List CycA) (w1 : World) (KX : Act → World → Prop) : Prop :=
 ∀ (wx : World) (u0 u1 u2 u3 u4 u5 u6 u7 u8 u9 u10 u12 u13 u14 u15 u16 u17 u18 u19 u20 u21 u22 u23 u24 u25 u26 u27 u28 u29 u30 u31 u32 u33 u34 u35 u36 u37 u38 u39 u40 u41 u42 u43 u44 u45 u46 u47 u48 u49 u50 u51 u52 u53 u54 u55 u56 u57 u58 u59 u60 u61 u62 u63 u64 u65 u66 u67 u68 u69 u70 u71 u72 u73 u74 u75 u76 u77 u78 u79 u80 u81 u82 u83 u84 u85 u86 u87 u88 : Value), (∀ y, y ∈ cys.map (·.y) → CycOk W a b c ws gs y) → Below w1.heap.size w1 wx → wx.heap[w1.heap.size]? = some (.cells (mets ws ws.length (flat W (cys.map (·.y)))).toArray 60 (0, 0)) → KX ⟨#[u0, u1, u2, u3, u4, u5, u6, u7, u8, u9, u10, .slice (some ⟨w1.heap.size, 0, none⟩) ws.length ws.length, u12, u13, u14, u15, u16, u17, u18, u19, u20, u21, u22, u23, u24, u25, u26, u27, u28, u29, u30, u31, u32, u33, u34, u35, u36, u37, u38, u39, u40, u41, u42, u43, u44, u45, u46, u47, u48, u49, u50, u51, u52, u53, u54, u55, u56, u57, u58, u59, u60, u61, u62, u63, u64, u65, u66, u67, u68, u69, u70, u71, u72, u73, u74, u75, u76, u77, u78, u79, u80, u81, u82, u83, u84, u85, u86, u87, u88], []⟩ wx
theorem sum_in {n : Nat} {y : CycD} (h : y.head n) : y.i + y.j = 1 ∨ y.i + y.j = 2 ∨ y.i + y.j = 3 := by
 obtain ⟨h1, h2, h3, _⟩ := h
 unfold isMir at h1 h2
 omega
theorem flat_in {K : Type} [Cox.OR K] {W : Cox.Tri K} {a b c : Int} {ws : List (List (Fin 3))} {gs : List (EdgeW × List (Fin 3))} {ys : List CycD} (h : ∀ y, y ∈ ys → CycOk W a b c ws gs y) : ∀ x, x ∈ flat W ys → x.1 ∈ ws ∧ (x.2 = 1 ∨ x.2 = 2 ∨ x.2 = 3) := by
 intro x hx
 unfold flat at hx
 obtain ⟨y, hy, hx⟩ := List.mem_flatMap.1 hx
 unfold cors at hx
 obtain ⟨u, hu, rfl⟩ := List.mem_map.1 hx
 exact ⟨(h y hy).2.1.2.1 u hu, sum_in (h y hy).1⟩
theorem flat_le {K : Type} [Cox.OR K] {W : Cox.Tri K} {n : Nat} {ys : List CycD} (h : ∀ y, y ∈ ys → y.tiles.length ≤ n) : (flat W ys).length ≤ n * ys.length := by
 induction ys with
 | nil => simp [flat]
 | cons y l ih =>
  have h1 := ih (fun z hz => h z (List.mem_cons_of_mem _ hz))
  have h2 := h y (List.mem_cons_self ..)
  have : flat W (y :: l) = cors W y ++ flat W l := rfl
  rw [this, List.length_append, cors_len, List.length_cons, Nat.mul_succ]
  omega
theorem mets_store {w : World} {mt : Nat} {ws : List (List (Fin 3))} (hnd : ws.Nodup) {L : List CornW} (h : w.heap[mt]? = some (.cells (mets ws ws.length L).toArray 60 (0, 0))) {t k : Nat} (ht : t < ws.length) (hk : k < 4) {u : List (Fin 3)} (hu : ws[t] = u) :
 (w.setCell ⟨mt, t * 4 + k, none⟩ (.int .i64 (((cnt ws L t k : Nat) : Int) + 1))).heap[mt]? = some (.cells (mets ws ws.length (L ++ [(u, (k : Int))])).toArray 60 (0, 0)) := by
 rw [heap_setCell', if_pos rfl, h]
 simp only [Option.map_some]
 have h1 := mets_set hnd (L := L) ht hk
 rw [hu] at h1
 rw [← h1]
 simp [List.setIfInBounds_toArray]
theorem IntsAt.set {w : World} {p : Option Addr} {l : List Int} (h : IntsAt w p l) {mt o : Nat} {v : Value} (hq : ∀ q o, p = some ⟨q, o, none⟩ → mt < q) : IntsAt (w.setCell ⟨mt, o, none⟩ v) p l := by
 intro hne
 obtain ⟨b, o1, rfl, hr⟩ := h hne
 refine ⟨b, o1, rfl, fun i hi => ?_⟩
 have h1 := hr i hi
 have h2 := hq b o1 rfl
 rw [World.cell?_of_block (w := w) (a := ⟨b, o1 + i, none⟩) (set_keep (by show b ≠ mt; omega))]
 exact h1
theorem rfits_t5 {K : Type} [Cox.OR K] {W : Cox.Tri K} {Q : Ending → World → Prop} {a b c : Int} {ws : List (List (Fin 3))} {gs : List (EdgeW × List (Fin 3))} {cys : List CycA} {pc pt pto : Option Addr} {cc ct cto bl : Nat} {v3 v4 : Value} {f : Nat → Nat → Int} {w1 wz : World} {e : Int}
 (hord : Ords W a b c) (hrw : RW W a b c) (hwl : ws.length ≤ 200) (hnd : ws.Nodup) (hbox : w1.heap[bl]? = some (.cells #[.int .i64 a, .int .i64 b, .int .i64 c, .slice pt ws.length ct, .slice pto ws.length cto, v3, v4] 54 (0, 0)))
 (hts : StrsAt w1 pt (ws.map wb)) (hto : TosAt w1 pto ws.length f) (hf : ∀ t (h : t < ws.length) (i : Fin 3), f t i.val = zidx ws (mv W gs ws[t] i)) (hcs : CycsAt w1 pc cys) (hlc : cys.length ≤ 100000) (hs3 : ∀ y, y ∈ cys → y.y.tiles.length ≤ 1000 ∧ ∀ s, s ∈ y.y.tiles → s.size ≤ maxLen)
 (hb : Below w1.heap.size w1 wz) (hmz : wz.heap[w1.heap.size]? = some (.cells (mets ws ws.length []).toArray 60 (0, 0)))
 (HQ : Hid (∀ w', Below w1.heap.size w1 w' → Q (.returned (.int .i64 e)) w')) (he0 : FitsP W a b c ws gs (cys.map (·.y)) → e = 0) (he1 : ¬ FitsP W a b c ws gs (cys.map (·.y)) → e = 20) {u0 u1 u2 u4 u5 u6 u7 u8 u10 u12 u13 u14 u15 u16 u17 u18 u19 u20 u21 u22 u23 u24 u25 u26 u27 u28 u29 u30 u31 u32 u33 u34 u35 u36 u37 u38 u39 u40 u41 u42 u43 u44 u45 u46 u47 u48 u49 u50 u51 u52 u53 u54 u55 u56 u57 u58 u59 u60 u61 u62 u63 u64 u65 u66 u67 u68 u69 u70 u71 u72 u73 u74 u75 u76 u77 u78 u79 u80 u81 u82 u83 u84 u85 u86 u87 u88 : Value} :
 Code.wp Try.prog rfits5 (bodyPost Try.prog Try.f8 Q) ⟨#[u0, u1, u2, .slice pc cys.length cc, u4, u5, u6, u7, u8, .pointer (some ⟨bl, 0, none⟩), u10, .slice (some ⟨w1.heap.size, 0, none⟩) ws.length ws.length, u12, u13, u14, u15, u16, u17, u18, u19, u20, u21, u22, u23, u24, u25, u26, u27, u28, u29, u30, u31, u32, u33, u34, u35, u36, u37, u38, u39, u40, u41, u42, u43, u44, u45, u46, u47, u48, u49, u50, u51, u52, u53, u54, u55, u56, u57, u58, u59, u60, u61, u62, u63, u64, u65, u66, u67, u68, u69, u70, u71, u72, u73, u74, u75, u76, u77, u78, u79, u80, u81, u82, u83, u84, u85, u86, u87, u88], []⟩ wz := by
 conv => arg 2; whnf
 refine wp_seq_k (fun KX hKX => ?_)
 have HK17 : FtNext W a b c ws gs cys w1 KX := by
  intro wx u0 u1 u2 u3 u4 u5 u6 u7 u8 u9 u10 u12 u13 u14 u15 u16 u17 u18 u19 u20 u21 u22 u23 u24 u25 u26 u27 u28 u29 u30 u31 u32 u33 u34 u35 u36 u37 u38 u39 u40 u41 u42 u43 u44 u45 u46 u47 u48 u49 u50 u51 u52 u53 u54 u55 u56 u57 u58 u59 u60 u61 u62 u63 u64 u65 u66 u67 u68 u69 u70 u71 u72 u73 u74 u75 u76 u77 u78 u79 u80 u81 u82 u83 u84 u85 u86 u87 u88 hok hbx hmx
  have hm := met_once hnd (flat_in hok)
  refine hKX _ _ (rfits_t17 (ws := ws) (L := flat W (cys.map (·.y))) rfl hwl hmx (Hi (fun w' h => HQ.out w' (hbx.trans (h.mono hbx.size)))) (fun h => he0 ⟨hok, hm.1 h⟩) (fun h => he1 (fun h2 => h (hm.2 h2.2))))
 have HW := Hi (And.intro hord (And.intro hrw (And.intro hwl (And.intro hnd hbox))))
 have HT := Hi (And.intro hts (And.intro hto hf))
 have HCS := Lib.hid hcs
 have HS3 := Lib.hid hs3
 have HE1 := Lib.hid he1
 have HB0 := Hi (And.intro hb hmz)
 have HLC := Lib.hid hlc
 clear hKX hord hrw hnd hbox hts hto hf hcs hs3 hb hmz he0 he1
 go_wp2_with fail
 go_loopw [36] (fun t wr => ∃ k : Nat, k ≤ cys.length ∧ t = .int .i64 (k : Nat) ∧ Hid ((∀ y, y ∈ (cys.map (·.y)).take k → CycOk W a b c ws gs y) ∧ Below w1.heap.size w1 wr ∧ wr.heap[w1.heap.size]? = some (.cells (mets ws ws.length (flat W ((cys.map (·.y)).take k))).toArray 60 (0, 0)))) (fun t _ => cys.length - (intOf t).toNat)
 case atStart => exact ⟨0, by omega, rfl, Lib.hid ⟨by simp, HB0.out.1, HB0.out.2⟩⟩
 case round =>
  obtain ⟨k, hk, rfl, HK⟩ := hrel
  by_cases hlt : k < cys.length
  · obtain ⟨b0, o0, hpc, hr⟩ := (HCS.out.below HK.out.2.1) (by intro h; rw [h] at hlt; simp at hlt)
    obtain ⟨q0, q1, q2, q3, q4, q5⟩ := hr k hlt
    clear hr
    subst hpc
    have i1 : (k : Int) < (cys.length : Int) := by omega
    have i2 : (0 : Int) ≤ (k : Int) := by omega
    have HLT := Lib.hid hlt
    have HC3 := Hi (HS3.out _ (List.getElem_mem hlt))
    have Q5 := Lib.hid q5
    clear q5
    generalize hck : cys[k] = ck at *
    obtain ⟨pk, ck, yk⟩ := ck
    simp only at q0 q1 q2 q3 q4
    have HYM : Hid ((cys.map (·.y))[k]? = some yk) := Hi (by rw [List.getElem?_map, List.getElem?_eq_getElem HLT.out]; exact congrArg (fun c : CycA => some c.y) hck)
    clear hck hlt
    go_upto_region 8 with fail
    have hbx := (Below.refl wr.heap.size wr).alloc (Nat.le_refl _) (.cells #[.slice pk yk.tiles.length ck, .int .i64 yk.i, .int .i64 yk.j, .int .i64 yk.rounds, .bool yk.mir] 48)
    have hob := str_new wr #[.slice pk yk.tiles.length ck, .int .i64 yk.i, .int .i64 yk.j, .int .i64 yk.rounds, .bool yk.mir] 48 _ rfl
    have hsb : (wr.alloc (.cells #[.slice pk yk.tiles.length ck, .int .i64 yk.i, .int .i64 yk.j, .int .i64 yk.rounds, .bool yk.mir] 48)).heap.size = wr.heap.size + 1 := by simp
    generalize wr.alloc (.cells #[.slice pk yk.tiles.length ck, .int .i64 yk.i, .int .i64 yk.j, .int .i64 yk.rounds, .bool yk.mir] 48) = wA at *
    have hwA : Below w1.heap.size w1 wA := HK.out.2.1.trans (hbx.mono HK.out.2.1.size)
    have HA := Hi (And.intro hwA (And.intro ((hbx.block _ (Array.getElem?_eq_some_iff.1 HK.out.2.2).1).trans HK.out.2.2) (And.intro hob hsb)))
    have HMT := Hi (Array.getElem?_eq_some_iff.1 HK.out.2.2).1
    have hbox : wA.heap[bl]? = some (.cells #[.int .i64 a, .int .i64 b, .int .i64 c, .slice pt ws.length ct, .slice pto ws.length cto, v3, v4] 54 (0, 0)) := (hwA.block _ (Array.getElem?_eq_some_iff.1 HW.out.2.2.2.2).1).trans HW.out.2.2.2.2
    have x0 : wA.cell? ⟨bl, 0, none⟩ = some (.int .i64 a) := by rw [cell_of hbox]; rfl
    have x1 : wA.cell? ⟨bl, 1, none⟩ = some (.int .i64 b) := by rw [cell_of hbox]; rfl
    have x2 : wA.cell? ⟨bl, 2, none⟩ = some (.int .i64 c) := by rw [cell_of hbox]; rfl
    have x3 : wA.cell? ⟨bl, 3, none⟩ = some (.slice pt ws.length ct) := by rw [cell_of hbox]; rfl
    have x4 : wA.cell? ⟨bl, 4, none⟩ = some (.slice pto ws.length cto) := by rw [cell_of hbox]; rfl
    have x5 : wA.cell? ⟨bl, 5, none⟩ = some v3 := by rw [cell_of hbox]; rfl
    have x6 : wA.cell? ⟨bl, 6, none⟩ = some v4 := by rw [cell_of hbox]; rfl
    have b0 : wA.cell? ⟨wr.heap.size, 0, none⟩ = some (.slice pk yk.tiles.length ck) := by rw [cell_of hob]; rfl
    have b1 : wA.cell? ⟨wr.heap.size, 1, none⟩ = some (.int .i64 yk.i) := by rw [cell_of hob]; rfl
    have b2 : wA.cell? ⟨wr.heap.size, 2, none⟩ = some (.int .i64 yk.j) := by rw [cell_of hob]; rfl
    have b3 : wA.cell? ⟨wr.heap.size, 3, none⟩ = some (.int .i64 yk.rounds) := by rw [cell_of hob]; rfl
    have b4 : wA.cell? ⟨wr.heap.size, 4, none⟩ = some (.bool yk.mir) := by rw [cell_of hob]; rfl
    have RT := Hi (rright_any HW.out.1 HW.out.2.1 ws HW.out.2.2.1 v3 v4 wA pt pto pk ct cto ck (HT.out.1.below hwA) f (HT.out.2.1.below hwA) gs HT.out.2.2 yk (Q5.out.below hbx) HC3.out.1 HC3.out.2)
    unfold lval cval at RT
    clear q0 q1 q2 q3 q4 hbx hob hsb hbox hwA
    generalize wr.heap.size = bc at *
    by_cases hok : CycOk W a b c ws gs yk
    case neg =>
     have HE : Hid (e = 20) := Hi (HE1.out (fun hf => hok (hf.1 _ (List.mem_of_getElem? HYM.out))))
     have HOK := Lib.hid hok
     clear hok
     go_wp2_with (go_at_call 18; refine RT.out.mono ?_; rintro r w5 ⟨pv, bb, rfl, hb5, h1, _⟩; have hbb : bb = false := (by cases bb with | true => exact (HOK.out (h1.1 rfl)).elim | false => rfl); subst hbb; have HB5 := Lib.hid hb5; clear hb5 h1)
     rw [← HE.out]
     exact HQ.out _ (HA.out.1.trans (HB5.out.mono HA.out.1.size))
    case pos =>
     have HOK := Lib.hid hok
     clear hok
     have hyl : yk.tiles.length ≤ 200 := by
      have h1 := HOK.out.1.2.2.2.2
      have h2 := HW.out.2.2.1
      omega
     go_upto_region 11 with (go_at_call 18; refine RT.out.mono ?_; rintro r w5 ⟨pv, bb, rfl, hb5, h1, h2⟩; have hbb := h1.2 HOK.out; subst hbb; obtain ⟨pj, cj, rfl, hia, hfr⟩ := h2 rfl; have HB5 := Hi (And.intro hb5 (And.intro hia hfr)); clear hb5 h1 h2 hia hfr)
     have HI0 : Hid (Below w1.heap.size w1 w5 ∧ w5.heap[w1.heap.size]? = some (.cells (mets ws ws.length (flat W ((cys.map (·.y)).take k) ++ (cors W yk).take 0)).toArray 60 (0, 0)) ∧ IntsAt w5 pj ((tws W yk.tiles).map fun u => (uidx ws u : Int)) ∧ w5.heap[bc]? = some (.cells #[.slice pk yk.tiles.length ck, .int .i64 yk.i, .int .i64 yk.j, .int .i64 yk.rounds, .bool yk.mir] 48 (0, 0))) := Hi (by
      refine ⟨HA.out.1.trans (HB5.out.1.mono HA.out.1.size), ?_, HB5.out.2.1, ?_⟩
      · rw [List.take_zero, List.append_nil]
        exact (HB5.out.1.block _ (Array.getElem?_eq_some_iff.1 HA.out.2.1).1).trans HA.out.2.1
      · exact (HB5.out.1.block _ (Array.getElem?_eq_some_iff.1 HA.out.2.2.1).1).trans HA.out.2.2.1)
     have HFR : Hid ((∀ q o, pj = some ⟨q, o, none⟩ → w1.heap.size < q) ∧ w1.heap.size < bc) := Lib.hid ⟨fun q o h => by have h1 := HB5.out.2.2 q o h; have h2 := HA.out.2.2.2; have h3 := HMT.out; omega, HMT.out⟩
     clear RT x0 x1 x2 x3 x4 x5 x6 b0 b1 b2 b3 b4
     go_wp2_with fail
     go_loopw [50] (fun t wj => ∃ j : Nat, t = .int .i64 (j : Nat) ∧ j ≤ yk.tiles.length ∧ Hid (Below w1.heap.size w1 wj ∧ wj.heap[w1.heap.size]? = some (.cells (mets ws ws.length (flat W ((cys.map (·.y)).take k) ++ (cors W yk).take j)).toArray 60 (0, 0)) ∧ IntsAt wj pj ((tws W yk.tiles).map fun u => (uidx ws u : Int)) ∧ wj.heap[bc]? = some (.cells #[.slice pk yk.tiles.length ck, .int .i64 yk.i, .int .i64 yk.j, .int .i64 yk.rounds, .bool yk.mir] 48 (0, 0)))) (fun t _ => yk.tiles.length - (intOf t).toNat)
     case atStart => exact ⟨0, rfl, by omega, HI0⟩
     case round =>
      obtain ⟨j, rfl, hj, HJ⟩ := hrel
      by_cases hjl : j < yk.tiles.length
      · have ju : (j : Int) < (yk.tiles.length : Int) := by omega
        have jp : (0 : Int) ≤ (j : Int) := by omega
        have hjt : j < (tws W yk.tiles).length := by rw [tws_length]; exact hjl
        have HJL := Lib.hid hjl
        obtain ⟨u, hu⟩ : ∃ u, (tws W yk.tiles)[j]? = some u := ⟨_, List.getElem?_eq_getElem hjt⟩
        have hin := HOK.out.2.1.2.1 _ (List.mem_of_getElem? hu)
        have HU := Lib.hid hu
        obtain ⟨pb, po, hpj, hii⟩ := HJ.out.2.2.1 (by intro h; have := congrArg List.length h; simp at this; rw [this] at hjt; simp at hjt)
        have q0 := hii j (by rw [List.length_map]; exact hjt)
        rw [List.getElem_map, (List.getElem?_eq_some_iff.1 hu).2] at q0
        obtain ⟨hzz, hul, hue⟩ := uidx_mem hin
        obtain ⟨m, hm, hm3⟩ : ∃ m : Nat, yk.i + yk.j = (m : Int) ∧ m < 4 := by
         rcases sum_in HOK.out.1 with h | h | h
         · exact ⟨1, h, by decide⟩
         · exact ⟨2, h, by decide⟩
         · exact ⟨3, h, by decide⟩
        have d0 : wr.drew.cell? ⟨bc, 1, none⟩ = some (.int .i64 yk.i) := by rw [cell_drew_own, cell_of HJ.out.2.2.2]; rfl
        have d1 : wr.drew.cell? ⟨bc, 2, none⟩ = some (.int .i64 yk.j) := by rw [cell_drew_own, cell_of HJ.out.2.2.2]; rfl
        have d2 := met_cell HJ.out.2.1 hul hm3
        have f2 := free_of (w := wr.drew) HJ.out.2.1 (uidx ws u * 4 + m)
        have HNX := Hi (mets_store HW.out.2.2.2.1 HJ.out.2.1 hul hm3 hue)
        have hcn : cnt ws (flat W ((cys.map (·.y)).take k) ++ (cors W yk).take j) (uidx ws u) m ≤ 100001000 := by
         refine Nat.le_trans (cnt_le _ _ _ _) ?_
         rw [List.length_append, List.length_take]
         have h1 := flat_le (W := W) (n := 1000) (ys := (cys.map (·.y)).take k) (fun y hy => by
          obtain ⟨z, hz, rfl⟩ := List.mem_map.1 (List.mem_of_mem_take hy)
          exact (HS3.out z hz).1)
         rw [List.length_take, List.length_map] at h1
         have h2 := HLC.out
         have h3 := HC3.out.1
         have h4 : (cors W yk).length = yk.tiles.length := cors_len W yk
         have h5 : min k cys.length ≤ 100000 := by omega
         have h6 : 1000 * min k cys.length ≤ 1000 * 100000 := Nat.mul_le_mul_left _ h5
         omega
        have HCO : Hid ((cors W yk).take (j + 1) = (cors W yk).take j ++ [(u, (m : Int))]) := Hi (by
         have h1 := cors_at W HU.out
         obtain ⟨h2, h3⟩ := List.getElem?_eq_some_iff.1 h1
         rw [List.take_succ_eq_append_getElem h2, h3, hm])
        obtain ⟨x, hx⟩ : ∃ x : Int, ((cnt ws (flat W ((cys.map (·.y)).take k) ++ (cors W yk).take j) (uidx ws u) m : Nat) : Int) = x := ⟨_, rfl⟩
        rw [hx] at d2 HNX
        have w1_ : IntKind.i64.wrap (yk.i + yk.j) = (m : Int) := by rw [IntKind.wrap_i64]; omega
        have w2_ : IntKind.i64.wrap (x + 1) = x + 1 := by rw [IntKind.wrap_i64]; omega
        have HPJ := Lib.hid hpj
        have d2 : wr.drew.cell? ⟨w1.heap.size, uidx ws u * 4 + m, none⟩ = some (.int .i64 x) := by rw [cell_drew_own]; exact d2
        subst hpj
        have HNI2 := Hi (IntsAt.set (w := wr.drew) (HJ.out.2.2.1.below ((Below.refl _ _).drew)) (mt := w1.heap.size) (o := uidx ws u * 4 + m) (v := .int .i64 (x + 1)) HFR.out.1)
        clear hii hu hue hx hcn hm hin hjt hjl hzz
        generalize uidx ws u = tt at *
        have t1 : (tt : Int) < (ws.length : Int) := by omega
        have t2 : (0 : Int) ≤ (tt : Int) := by omega
        have m1 : (m : Int) < 4 := by omega
        have m2 : (0 : Int) ≤ (m : Int) := by omega
        have HDR : Hid (Below w1.heap.size w1 wr.drew ∧ wr.drew.heap[w1.heap.size]? = wr.heap[w1.heap.size]? ∧ IntsAt wr.drew (some ⟨pb, po, none⟩) ((tws W yk.tiles).map fun u => (uidx ws u : Int)) ∧ wr.drew.heap[bc]? = wr.heap[bc]?) := Lib.hid ⟨HJ.out.1.trans ((Below.refl _ _).drew), rfl, HJ.out.2.2.1.below ((Below.refl _ _).drew), rfl⟩
        generalize w1.heap.size = mt at *
        go_upto_region 14 with fail
        refine e_begin (fun w' => w'.cell? ⟨bc, 1, none⟩ = some (.int .i64 yk.i) ∧ w'.cell? ⟨bc, 2, none⟩ = some (.int .i64 yk.j) ∧ w'.cell? ⟨mt, tt * 4 + m, none⟩ = some (.int .i64 x)) 13 (by kernel_rfl) (⟨d0, d1, d2⟩) (fun hHeld => ?_)
        generalize wr.drew = wd at *
        refine ey 0 hHeld ?_
        try simp only [ly]
        refine ey 1 hHeld ?_
        try simp only [ly]
        refine ey 2 hHeld ?_
        try simp only [ly]
        refine ey 3 hHeld ?_
        try simp only [ly]
        refine ey 4 hHeld ?_
        try simp only [ly]
        refine ey 5 hHeld ?_
        try simp only [ly]
        refine ey 6 hHeld ?_
        try simp only [ly]
        refine ey 7 hHeld ?_
        try simp only [ly]
        refine ey 8 hHeld ?_
        try simp only [ly]
        refine ey 9 hHeld ?_
        try simp only [ly]
        refine ey 10 hHeld ?_
        try simp only [ly]
        refine e_step (i := 11) rfl (by kernel_rfl) (fun K' hK => ?_)
        go_simp
        refine hK.out _ _ (fun _ => hHeld) (fun hH => ?_)
        have hHeld := hH (by decide)
        clear hK K' hH
        try simp only [ly]
        refine ey 12 hHeld ?_
        try simp only [ly]
        obtain ⟨z0, z1, z2⟩ := hHeld
        refine e_step (i := 13) rfl (by kernel_rfl) (fun K' hK => ?_)
        go_simp
        refine hK.out _ _ (fun h => (h rfl).elim) (fun _ => ?_)
        clear hK K'
        try simp only [ly]
        refine e_done (by kernel_rfl) ?_ _
        have HN2 : Hid (Below mt w1 (wd.setCell ⟨mt, tt * 4 + m, none⟩ (.int .i64 (x + 1))) ∧ (wd.setCell ⟨mt, tt * 4 + m, none⟩ (.int .i64 (x + 1))).heap[mt]? = some (.cells (mets ws ws.length (flat W ((cys.map (·.y)).take k) ++ (cors W yk).take (j + 1))).toArray 60 (0, 0)) ∧ IntsAt (wd.setCell ⟨mt, tt * 4 + m, none⟩ (.int .i64 (x + 1))) (some ⟨pb, po, none⟩) ((tws W yk.tiles).map fun u => (uidx ws u : Int)) ∧ (wd.setCell ⟨mt, tt * 4 + m, none⟩ (.int .i64 (x + 1))).heap[bc]? = some (.cells #[.slice pk yk.tiles.length ck, .int .i64 yk.i, .int .i64 yk.j, .int .i64 yk.rounds, .bool yk.mir] 48 (0, 0))) := Hi (by
         refine ⟨HDR.out.1.setCell (p := ⟨mt, tt * 4 + m, none⟩) (Nat.le_refl _) _, ?_, HNI2.out, ?_⟩
         · rw [HCO.out, ← List.append_assoc, ← HNX.out, heap_setCell', heap_setCell', if_pos rfl, if_pos rfl, HDR.out.2.1]
         · rw [heap_setCell', if_neg (fun e => by have := HFR.out.2; omega), HDR.out.2.2.2]
           exact HJ.out.2.2.2)
        generalize wd.setCell ⟨mt, tt * 4 + m, none⟩ (.int .i64 (x + 1)) = wn at *
        clear d0 d1 d2 f2 z0 z1 z2 q0 HNX
        go_wp2_with fail
        go_roundw
        case rel => exact ⟨j + 1, by go_num, by have := HJL.out; omega, HN2⟩
        case measure =>
         have := HJL.out
         simp [intOf]; omega
      · have hje : j = yk.tiles.length := by omega
        subst hje
        have ju : ¬ (yk.tiles.length : Int) < (yk.tiles.length : Int) := by omega
        have HKN : Hid ((∀ y, y ∈ (cys.map (·.y)).take (k + 1) → CycOk W a b c ws gs y) ∧ Below w1.heap.size w1 wr ∧ wr.heap[w1.heap.size]? = some (.cells (mets ws ws.length (flat W ((cys.map (·.y)).take (k + 1)))).toArray 60 (0, 0))) := Hi (by
         obtain ⟨h1, h2⟩ := List.getElem?_eq_some_iff.1 HYM.out
         refine ⟨fun y hy => ?_, HJ.out.1, ?_⟩
         · rw [List.take_succ_eq_append_getElem h1, h2] at hy
           rcases List.mem_append.1 hy with hy | hy
           · exact HK.out.1 y hy
           · simp at hy; subst hy; exact HOK.out
         · have h3 := HJ.out.2.1
           rw [List.take_of_length_le (l := cors W yk) (by rw [cors_len]; exact Nat.le_refl _)] at h3
           rw [flat_take W h1, h2]
           exact h3)
        go_wp2_with fail
        go_roundw
        case rel => exact ⟨k + 1, by have := HLT.out; omega, by go_num, HKN⟩
        case measure =>
         have := HLT.out
         simp [intOf]; omega
  · have hke : k = cys.length := by omega
    subst hke
    have i1 : ¬ (cys.length : Int) < (cys.length : Int) := by omega
    have HKE : Hid ((∀ y, y ∈ cys.map (·.y) → CycOk W a b c ws gs y) ∧ Below w1.heap.size w1 wr ∧ wr.heap[w1.heap.size]? = some (.cells (mets ws ws.length (flat W (cys.map (·.y)))).toArray 60 (0, 0))) := Hi (by
     have h1 := HK.out
     rw [List.take_of_length_le (by rw [List.length_map]; exact Nat.le_refl _)] at h1
     exact h1)
    go_wp2_with fail
    exact HK17 wr _ _ _ _ _ _ _ _ _ _ _ _ _ _ _ _ _ _ _ _ _ _ _ _ _ _ _ _ _ _ _ _ _ _ _ _ _ _ _ _ _ _ _ _ _ _ _ _ _ _ _ _ _ _ _ _ _ _ _ _ _ _ _ _ _ _ _ _ _ _ _ _ _ _ _ _ _ _ _ _ _ _ _ _ _ _ _ _ HKE.out.1 HKE.out.2.1 HKE.out.2.2
end Go.Proofs.Ytkndmibmmoikbaa
namespace Go.Proofs.Ytkndmibmmoikbaa
open Go.RowKit
open Cox (Tl)
noncomputable def rfits4 : Code := (Try.f8.body.bind (fromR 4)).getD .skip
def FtStart (ws : List (List (Fin 3))) (cys : List CycA) (pc : Option Addr) (cc bl : Nat) (w1 : World) (KX : Act → World → Prop) : Prop :=
 ∀ (wx : World) (u0 u1 u2 u4 u5 u6 u7 u8 u10 u12 u13 u14 u15 u16 u17 u18 u19 u20 u21 u22 u23 u24 u25 u26 u27 u28 u29 u30 u31 u32 u33 u34 u35 u36 u37 u38 u39 u40 u41 u42 u43 u44 u45 u46 u47 u48 u49 u50 u51 u52 u53 u54 u55 u56 u57 u58 u59 u60 u61 u62 u63 u64 u65 u66 u67 u68 u69 u70 u71 u72 u73 u74 u75 u76 u77 u78 u79 u80 u81 u82 u83 u84 u85 u86 u87 u88 : Value), Below w1.heap.size w1 wx → wx.heap[w1.heap.size]? = some (.cells (mets ws ws.length []).toArray 60 (0, 0)) → KX ⟨#[u0, u1, u2, .slice pc cys.length cc, u4, u5, u6, u7, u8, .pointer (some ⟨bl, 0, none⟩), u10, .slice (some ⟨w1.heap.size, 0, none⟩) ws.length ws.length, u12, u13, u14, u15, u16, u17, u18, u19, u20, u21, u22, u23, u24, u25, u26, u27, u28, u29, u30, u31, u32, u33, u34, u35, u36, u37, u38, u39, u40, u41, u42, u43, u44, u45, u46, u47, u48, u49, u50, u51, u52, u53, u54, u55, u56, u57, u58, u59, u60, u61, u62, u63, u64, u65, u66, u67, u68, u69, u70, u71, u72, u73, u74, u75, u76, u77, u78, u79, u80, u81, u82, u83, u84, u85, u86, u87, u88], []⟩ wx
def FtHead (cys : List CycA) (pc : Option Addr) (cc bl : Nat) (w1 : World) (KX : Act → World → Prop) : Prop :=
 ∀ (u0 u1 u2 u4 u5 u6 u7 u8 u10 u11 u12 u13 u14 u15 u16 u17 u18 u19 u20 u21 u22 u23 u24 u25 u26 u27 u28 u29 u30 u31 u32 u33 u34 u35 u36 u37 u38 u39 u40 u41 u42 u43 u44 u45 u46 u47 u48 u49 u50 u51 u52 u53 u54 u55 u56 u57 u58 u59 u60 u61 u62 u63 u64 u65 u66 u67 u68 u69 u70 u71 u72 u73 u74 u75 u76 u77 u78 u79 u80 u81 u82 u83 u84 u85 u86 u87 u88 : Value), KX ⟨#[u0, u1, u2, .slice pc cys.length cc, u4, u5, u6, u7, u8, .pointer (some ⟨bl, 0, none⟩), u10, u11, u12, u13, u14, u15, u16, u17, u18, u19, u20, u21, u22, u23, u24, u25, u26, u27, u28, u29, u30, u31, u32, u33, u34, u35, u36, u37, u38, u39, u40, u41, u42, u43, u44, u45, u46, u47, u48, u49, u50, u51, u52, u53, u54, u55, u56, u57, u58, u59, u60, u61, u62, u63, u64, u65, u66, u67, u68, u69, u70, u71, u72, u73, u74, u75, u76, u77, u78, u79, u80, u81, u82, u83, u84, u85, u86, u87, u88], []⟩ w1
theorem rfits_t4 {K : Type} [Cox.OR K] {W : Cox.Tri K} {Q : Ending → World → Prop} {a b c : Int} {ws : List (List (Fin 3))} {gs : List (EdgeW × List (Fin 3))} {cys : List CycA} {pc pt pto : Option Addr} {cc ct cto bl : Nat} {v3 v4 : Value} {f : Nat → Nat → Int} {w1 : World} {e : Int}
 (hord : Ords W a b c) (hrw : RW W a b c) (hwl : ws.length ≤ 200) (hnd : ws.Nodup) (hbox : w1.heap[bl]? = some (.cells #[.int .i64 a, .int .i64 b, .int .i64 c, .slice pt ws.length ct, .slice pto ws.length cto, v3, v4] 54 (0, 0)))
 (hts : StrsAt w1 pt (ws.map wb)) (hto : TosAt w1 pto ws.length f) (hf : ∀ t (h : t < ws.length) (i : Fin 3), f t i.val = zidx ws (mv W gs ws[t] i)) (hcs : CycsAt w1 pc cys) (hlc : cys.length ≤ 100000) (hs3 : ∀ y, y ∈ cys → y.y.tiles.length ≤ 1000 ∧ ∀ s, s ∈ y.y.tiles → s.size ≤ maxLen)
 (HQ : Hid (∀ w', Below w1.heap.size w1 w' → Q (.returned (.int .i64 e)) w')) (he0 : FitsP W a b c ws gs (cys.map (·.y)) → e = 0) (he1 : ¬ FitsP W a b c ws gs (cys.map (·.y)) → e = 20) {u0 u1 u2 u4 u5 u6 u7 u8 u10 u11 u12 u13 u14 u15 u16 u17 u18 u19 u20 u21 u22 u23 u24 u25 u26 u27 u28 u29 u30 u31 u32 u33 u34 u35 u36 u37 u38 u39 u40 u41 u42 u43 u44 u45 u46 u47 u48 u49 u50 u51 u52 u53 u54 u55 u56 u57 u58 u59 u60 u61 u62 u63 u64 u65 u66 u67 u68 u69 u70 u71 u72 u73 u74 u75 u76 u77 u78 u79 u80 u81 u82 u83 u84 u85 u86 u87 u88 : Value} :
 Code.wp Try.prog rfits4 (bodyPost Try.prog Try.f8 Q) ⟨#[u0, u1, u2, .slice pc cys.length cc, u4, u5, u6, u7, u8, .pointer (some ⟨bl, 0, none⟩), u10, u11, u12, u13, u14, u15, u16, u17, u18, u19, u20, u21, u22, u23, u24, u25, u26, u27, u28, u29, u30, u31, u32, u33, u34, u35, u36, u37, u38, u39, u40, u41, u42, u43, u44, u45, u46, u47, u48, u49, u50, u51, u52, u53, u54, u55, u56, u57, u58, u59, u60, u61, u62, u63, u64, u65, u66, u67, u68, u69, u70, u71, u72, u73, u74, u75, u76, u77, u78, u79, u80, u81, u82, u83, u84, u85, u86, u87, u88], []⟩ w1 := by
 conv => arg 2; whnf
 refine wp_seq_k (fun KX hKX => ?_)
 have HK5 : FtStart ws cys pc cc bl w1 KX := by
  intro wx u0 u1 u2 u4 u5 u6 u7 u8 u10 u12 u13 u14 u15 u16 u17 u18 u19 u20 u21 u22 u23 u24 u25 u26 u27 u28 u29 u30 u31 u32 u33 u34 u35 u36 u37 u38 u39 u40 u41 u42 u43 u44 u45 u46 u47 u48 u49 u50 u51 u52 u53 u54 u55 u56 u57 u58 u59 u60 u61 u62 u63 u64 u65 u66 u67 u68 u69 u70 u71 u72 u73 u74 u75 u76 u77 u78 u79 u80 u81 u82 u83 u84 u85 u86 u87 u88 h1 h2
  exact hKX _ _ (rfits_t5 hord hrw hwl hnd hbox hts hto hf hcs hlc hs3 h1 h2 HQ he0 he1)
 obtain ⟨i60, hi60, hz0, hz1, hz2⟩ := info_parts info60
 have hmk : ∀ w, (Instr.makeSlice 57 (.int .i64 (ws.length : Int)) (.int .i64 (ws.length : Int))).run Try.prog w = .ok (.slice (some ⟨w.heap.size, 0, none⟩) ws.length ws.length) (w.alloc (.cells (madeCells #[.int .i64 0, .int .i64 0, .int .i64 0, .int .i64 0] (ws.length * 4)) 60)) := fun w => by
  have := run_make (P := Try.prog) w 57 60 i60 _ Try.underlying57 hi60 hz0 .i64 .i64 (ws.length : Int) (ws.length : Int) (by omega) (Int.le_refl _) (by rw [hz2]; omega) (by omega)
  rw [hz1] at this
  simpa [Value.cells] using this
 have x3 : w1.cell? ⟨bl, 3, none⟩ = some (.slice pt ws.length ct) := by rw [cell_of hbox]; rfl
 clear hKX hord hrw hnd hbox hts hto hf hcs hlc hs3 he0 he1 hi60 hz0 hz1 hz2 hwl
 go_wp2_with fail
 refine HK5 _ _ _ _ _ _ _ _ _ _ _ _ _ _ _ _ _ _ _ _ _ _ _ _ _ _ _ _ _ _ _ _ _ _ _ _ _ _ _ _ _ _ _ _ _ _ _ _ _ _ _ _ _ _ _ _ _ _ _ _ _ _ _ _ _ _ _ _ _ _ _ _ _ _ _ _ _ _ _ _ _ _ _ _ _ _ _ ((Below.refl _ _).alloc (Nat.le_refl _) _) ?_
 have := str_new w1 (madeCells #[.int .i64 0, .int .i64 0, .int .i64 0, .int .i64 0] (ws.length * 4)) 60 _ rfl
 rw [mets_nil ws] at this
 rw [mets_nil ws]
 exact this
theorem rfits_any {K : Type} [Cox.OR K] (W : Cox.Tri K) (a b c : Int) (hord : chk a b c = 0 → Ords W a b c) (hrw : chk a b c = 0 → RW W a b c) (ts : List ByteArray) (ps : List PairD) (cys : List CycA) (pt pp pc : Option Addr) (ct cp cc : Nat) (w : World) (hts : StrsAt w pt ts) (hps : PairsAt w pp ps) (hcs : CycsAt w pc cys)
 (hlt : ts.length ≤ maxLen) (hlp : ps.length ≤ maxLen) (hlc : cys.length ≤ 100000) (hs : ∀ s, s ∈ ts → s.size ≤ maxLen) (hs2 : ∀ p, p ∈ ps → p.1.tile.size ≤ maxLen ∧ p.2.tile.size ≤ maxLen) (hs3 : ∀ y, y ∈ cys → y.y.tiles.length ≤ 1000 ∧ ∀ s, s ∈ y.y.tiles → s.size ≤ maxLen) :
 Calls Try.prog 8 #[oval a b c, .slice pt ts.length ct, .slice pp ps.length cp, .slice pc cys.length cc] w fun e w' => e = .returned (.int .i64 (fitsErr W a b c ts ps (cys.map (·.y)))) ∧ Below w.heap.size w w' := by
 obtain ⟨Q, hQ⟩ : ∃ Q : Ending → World → Prop, Q = fun e w' => e = .returned (.int .i64 (fitsErr W a b c ts ps (cys.map (·.y)))) ∧ Below w.heap.size w w' := ⟨_, rfl⟩
 rw [← hQ]
 have hb0 : Below w.heap.size w (w.alloc (.cells #[.int .i64 a, .int .i64 b, .int .i64 c] 23)) := (Below.refl _ _).alloc (Nat.le_refl _) _
 have hc0 := str_new w #[.int .i64 a, .int .i64 b, .int .i64 c] 23 _ rfl
 have HCK := Hi (fun wx (hb : Below w.heap.size w wx) => read_any W a b c hrw ts ps pt pp ct cp wx (hts.below hb) (hps.below hb) hlt hlp hs hs2)
 have HTP := Hi (And.intro hcs (And.intro hrw (And.intro hord (And.intro hlc hs3))))
 have HQ := Lib.hid hQ
 unfold oval at *
 clear hts hps hs hs2 hlt hlp hrw hQ hcs hlc hs3 hord
 go_enter Try.func8, Try.ntmps8
 refine wp_seq_k (fun KX0 hKX0 => ?_)
 have HKX0 := Lib.hid hKX0
 clear hKX0
 go_wp2_with fail
 refine HKX0.out _ _ ?_
 clear HKX0
 generalize w.alloc (.cells #[.int .i64 a, .int .i64 b, .int .i64 c] 23) = wb0 at *
 have HB := Hi (And.intro hb0 hc0)
 have k0 : wb0.cell? ⟨w.heap.size, 0, none⟩ = some (.int .i64 a) := by rw [cell_of hc0]; rfl
 have k1 : wb0.cell? ⟨w.heap.size, 1, none⟩ = some (.int .i64 b) := by rw [cell_of hc0]; rfl
 have k2 : wb0.cell? ⟨w.heap.size, 2, none⟩ = some (.int .i64 c) := by rw [cell_of hc0]; rfl
 clear hb0 hc0
 by_cases h0 : nlErr W a b c ts ps = 0
 case neg =>
  have HN : Hid (fitsErr W a b c ts ps (cys.map (·.y)) = nlErr W a b c ts ps) := Hi (by unfold fitsErr; rw [if_pos h0])
  have RA : Hid (Calls Try.prog 17 #[.agg #[.int .i64 a, .int .i64 b, .int .i64 c], .slice pt ts.length ct, .slice pp ps.length cp] wb0 fun r w' => r = .returned (.tuple #[.agg #[.int .i64 0, .int .i64 0, .int .i64 0, .slice none 0 0, .slice none 0 0, .slice none 0 0, .slice none 0 0], .int .i64 (nlErr W a b c ts ps)]) ∧ Below wb0.heap.size wb0 w') := Hi ((HCK.out _ HB.out.1).mono (by
   rintro r w' ⟨hb, ⟨_, h2⟩ | ⟨h1, _⟩⟩
   · exact ⟨h2, hb⟩
   · exact (h0 h1).elim))
  have e1 : (nlErr W a b c ts ps == 0) = false := by simpa using h0
  generalize nlErr W a b c ts ps = e0 at *
  clear HCK
  go_wp2_with (go_at_call 17; refine RA.out.mono ?_; rintro r w5 ⟨rfl, hb5⟩; have HB5 := Lib.hid hb5; clear hb5)
  rw [HQ.out]
  refine ⟨by rw [HN.out]; rfl, HB.out.1.trans ((HB5.out.alloc ?_ _).mono HB.out.1.size)⟩
  exact HB5.out.size
 case pos =>
  have hform : form a b c ts ps = 0 := by
   by_cases hf : form a b c ts ps = 0
   · exact hf
   · rw [nlErr_form W hf] at h0; exact h0
  have hgood := form_good hform
  have hap : ¬ Apart W (tws W ts) := fun h1 => by rw [nlErr_apart W hform h1] at h0; cases h0
  have HG := Hi (And.intro h0 (And.intro hgood hap))
  have RA : Hid (Calls Try.prog 17 #[.agg #[.int .i64 a, .int .i64 b, .int .i64 c], .slice pt ts.length ct, .slice pp ps.length cp] wb0 fun r w' => ∃ pt ct pto cto p3 n3 c3 p4 n4 c4 f, r = .returned (.tuple #[.agg #[.int .i64 a, .int .i64 b, .int .i64 c, .slice pt (tws W ts).length ct, .slice pto (tws W ts).length cto, .slice p3 n3 c3, .slice p4 n4 c4], .int .i64 0]) ∧ Below wb0.heap.size wb0 w' ∧ StrsAt w' pt ((tws W ts).map wb) ∧ TosAt w' pto (tws W ts).length f ∧ ∀ t (h : t < (tws W ts).length) (i : Fin 3), f t i.val = zidx (tws W ts) (mv W (glu (eds W ps)) (tws W ts)[t] i)) := Hi ((HCK.out _ HB.out.1).mono (by
   rintro r w' ⟨hb, ⟨h1, _⟩ | ⟨_, pt, ct, pto, cto, p3, n3, c3, p4, n4, c4, f, h2, h3, h4, h5⟩⟩
   · exact (h1 h0).elim
   · exact ⟨pt, ct, pto, cto, p3, n3, c3, p4, n4, c4, f, h2, hb, h3, h4, h5⟩))
  clear HCK h0 hform hgood hap
  refine wp_seq_k (fun KX1 hKX1 => ?_)
  have HKX1 := Lib.hid hKX1
  clear hKX1
  go_wp2_with (go_at_call 17; refine RA.out.mono ?_; rintro r w5 ⟨pt5, ct5, pto5, cto5, p3, n3, c3, p4, n4, c4, f, rfl, hb5, hs5, ht5, hf5⟩; have HB5 := Hi (And.intro hb5 (And.intro hs5 (And.intro ht5 hf5))); clear hb5 hs5 ht5 hf5)
  refine HKX1.out _ _ ?_
  clear HKX1
  have hb6 := (Below.refl w5.heap.size w5).alloc (Nat.le_refl _) (.cells #[.int .i64 a, .int .i64 b, .int .i64 c, .slice pt5 (tws W ts).length ct5, .slice pto5 (tws W ts).length cto5, .slice p3 n3 c3, .slice p4 n4 c4] 54)
  have hc6 := str_new w5 #[.int .i64 a, .int .i64 b, .int .i64 c, .slice pt5 (tws W ts).length ct5, .slice pto5 (tws W ts).length cto5, .slice p3 n3 c3, .slice p4 n4 c4] 54 _ rfl
  generalize w5.alloc (.cells #[.int .i64 a, .int .i64 b, .int .i64 c, .slice pt5 (tws W ts).length ct5, .slice pto5 (tws W ts).length cto5, .slice p3 n3 c3, .slice p4 n4 c4] 54) = w6 at *
  have hbw : Below w.heap.size w w6 := HB.out.1.trans ((HB5.out.1.trans (hb6.mono HB5.out.1.size)).mono HB.out.1.size)
  refine wp_seq_k (fun KX hKX => ?_)
  have HK4 : FtHead cys pc cc w5.heap.size w6 KX := by
   intro u0 u1 u2 u4 u5 u6 u7 u8 u10 u11 u12 u13 u14 u15 u16 u17 u18 u19 u20 u21 u22 u23 u24 u25 u26 u27 u28 u29 u30 u31 u32 u33 u34 u35 u36 u37 u38 u39 u40 u41 u42 u43 u44 u45 u46 u47 u48 u49 u50 u51 u52 u53 u54 u55 u56 u57 u58 u59 u60 u61 u62 u63 u64 u65 u66 u67 u68 u69 u70 u71 u72 u73 u74 u75 u76 u77 u78 u79 u80 u81 u82 u83 u84 u85 u86 u87 u88
   have hnd : (tws W ts).Nodup := Decidable.byContradiction fun h => HG.out.2.2 (.inr (.inl h))
   refine hKX _ _ (rfits_t4 (e := fitsErr W a b c ts ps (cys.map (·.y))) (gs := glu (eds W ps)) (HTP.out.2.2.1 HG.out.2.1.1) (HTP.out.2.1 HG.out.2.1.1) (by rw [tws_length]; exact HG.out.2.1.2.1) hnd hc6 (HB5.out.2.1.below hb6) (HB5.out.2.2.1.below hb6) HB5.out.2.2.2 (HTP.out.1.below hbw) HTP.out.2.2.2.1 HTP.out.2.2.2.2 (Lib.hid ?_) ?_ ?_)
   · intro w' h
     rw [HQ.out]
     exact ⟨rfl, hbw.trans (h.mono hbw.size)⟩
   · intro h
     unfold fitsErr
     rw [if_neg (by simp [HG.out.1]), if_pos h]
   · intro h
     unfold fitsErr
     rw [if_neg (by simp [HG.out.1]), if_neg h]
  clear hKX hb6 hc6 hbw k0 k1 k2
  go_wp2_with fail
  exact HK4 _ _ _ _ _ _ _ _ _ _ _ _ _ _ _ _ _ _ _ _ _ _ _ _ _ _ _ _ _ _ _ _ _ _ _ _ _ _ _ _ _ _ _ _ _ _ _ _ _ _ _ _ _ _ _ _ _ _ _ _ _ _ _ _ _ _ _ _ _ _ _ _ _ _ _ _ _ _ _ _ _ _ _ _ _ _ _
end Go.Proofs.Ytkndmibmmoikbaa
namespace Go.Proofs.Ytkndmibmmoikbaa
open Go.RowKit
open Cox (Tl)
noncomputable def small3 : Code := (Try.f5.body.bind (fromR 3)).getD .skip
def SmNext (ts : List ByteArray) (ps : List PairD) (pt pp : Option Addr) (ct cp : Nat) (w : World) (KX : Act → World → Prop) : Prop :=
 ∀ (u2 u3 u4 u5 u6 u7 u8 u9 u10 u11 u12 u13 u14 u15 u16 u17 u18 u19 u20 u21 u22 u23 u24 u25 u26 u27 u28 u29 u30 u31 u32 u33 u34 u35 u36 u37 u38 u39 u40 u41 u42 u43 u44 u45 u46 u47 u48 u49 u50 u51 u52 u53 u54 u55 : Value), KX ⟨#[.slice pt ts.length ct, .slice pp ps.length cp, u2, u3, u4, u5, u6, u7, u8, u9, u10, u11, u12, u13, u14, u15, u16, u17, u18, u19, u20, u21, u22, u23, u24, u25, u26, u27, u28, u29, u30, u31, u32, u33, u34, u35, u36, u37, u38, u39, u40, u41, u42, u43, u44, u45, u46, u47, u48, u49, u50, u51, u52, u53, u54, u55], []⟩ w
theorem small_t3 (ts : List ByteArray) (ps : List PairD) (pt pp : Option Addr) (ct cp : Nat) (w : World) {Q : Ending → World → Prop} (hts : StrsAt w pt ts) (hps : PairsAt w pp ps) (hlt : ts.length ≤ maxLen) (hlp : ps.length ≤ maxLen)
 (hs : ∀ s, s ∈ ts → s.size ≤ maxLen) (hs2 : ∀ p, p ∈ ps → p.1.tile.size ≤ maxLen ∧ p.2.tile.size ≤ maxLen) (HR : Hid (∀ w' (b : Bool), Below w.heap.size w w' → Q (.returned (.bool b)) w')) {u2 u3 u4 u5 u6 u7 u8 u9 u10 u11 u12 u13 u14 u15 u16 u17 u18 u19 u20 u21 u22 u23 u24 u25 u26 u27 u28 u29 u30 u31 u32 u33 u34 u35 u36 u37 u38 u39 u40 u41 u42 u43 u44 u45 u46 u47 u48 u49 u50 u51 u52 u53 u54 u55 : Value} :
 Code.wp Try.prog small3 (bodyPost Try.prog Try.f5 Q) ⟨#[.slice pt ts.length ct, .slice pp ps.length cp, u2, u3, u4, u5, u6, u7, u8, u9, u10, u11, u12, u13, u14, u15, u16, u17, u18, u19, u20, u21, u22, u23, u24, u25, u26, u27, u28, u29, u30, u31, u32, u33, u34, u35, u36, u37, u38, u39, u40, u41, u42, u43, u44, u45, u46, u47, u48, u49, u50, u51, u52, u53, u54, u55], []⟩ w := by
 have HTS := Lib.hid hts
 have HPS := Lib.hid hps
 have BR := Hi (fun s (h : s ∈ ts) w => brief_any s (hs s h) w)
 have BP1 := Hi (fun p (h : p ∈ ps) w => brief_any p.1.tile (hs2 p h).1 w)
 have BP2 := Hi (fun p (h : p ∈ ps) w => brief_any p.2.tile (hs2 p h).2 w)
 unfold maxLen at hlt hlp
 clear hts hps hs hs2
 conv => arg 2; whnf
 go_wp2_with fail
 go_loopw [29] (fun t wr => ∃ k : Nat, k ≤ ts.length ∧ t = .int .i64 (k : Nat) ∧ Hid (Below w.heap.size w wr)) (fun t _ => ts.length - (intOf t).toNat)
 case atStart => exact ⟨0, by omega, rfl, Hi (Below.refl _ _)⟩
 case round =>
  obtain ⟨k, hk, rfl, HK⟩ := hrel
  by_cases hl : k < ts.length
  · obtain ⟨b0, o0, hp, hr⟩ := (HTS.out.below HK.out) (by intro h; rw [h] at hl; simp at hl)
    have c0 := hr k hl
    subst hp
    have k1 : (k : Int) < (ts.length : Int) := by omega
    have k2 : (0 : Int) ≤ (k : Int) := by omega
    have HL := Lib.hid hl
    have IB := Hi (fun w => BR.out ts[k] (List.getElem_mem hl) w)
    clear hr
    obtain ⟨bb, hbb⟩ : ∃ bb, decide (ts[k].size ≤ 20 ∨ 60 < ts[k].size ∧ ts[k].size ≤ 120) = bb := ⟨_, rfl⟩
    rw [hbb] at IB
    clear hbb
    generalize ts[k] = sk at *
    cases bb with
    | true =>
     go_wp2_with (go_at_call 14; refine (IB.out _).mono ?_; rintro e w5 ⟨rfl, h5⟩; subst w5)
     go_roundw
     case rel => exact ⟨k + 1, by have := HL.out; omega, by go_num, HK⟩
     case measure =>
      have := HL.out
      simp [intOf]; omega
    | false =>
     go_wp2_with (go_at_call 14; refine (IB.out _).mono ?_; rintro e w5 ⟨rfl, h5⟩; subst w5)
     exact HR.out _ _ HK.out
  · have hke : k = ts.length := by omega
    subst hke
    have k1 : ¬ (ts.length : Int) < (ts.length : Int) := by omega
    go_wp2_with fail
    go_loopw [39] (fun t wq => ∃ k : Nat, k ≤ ps.length ∧ t = .int .i64 (k : Nat) ∧ Hid (Below w.heap.size w wq)) (fun t _ => ps.length - (intOf t).toNat)
    case atStart => exact ⟨0, by omega, rfl, HK⟩
    case round =>
     obtain ⟨k, hk, rfl, HK⟩ := hrel
     by_cases hl : k < ps.length
     · obtain ⟨b0, o0, hp, hr⟩ := (HPS.out.below HK.out) (by intro h; rw [h] at hl; simp at hl)
       obtain ⟨c0, c1, c2, c3⟩ := hr k hl
       subst hp
       have k1 : (k : Int) < (ps.length : Int) := by omega
       have k2 : (0 : Int) ≤ (k : Int) := by omega
       have HL := Lib.hid hl
       have IB1 := Hi (fun w => BP1.out ps[k] (List.getElem_mem hl) w)
       have IB2 := Hi (fun w => BP2.out ps[k] (List.getElem_mem hl) w)
       clear hr
       obtain ⟨b1, hb1⟩ : ∃ b1, decide (ps[k].1.tile.size ≤ 20 ∨ 60 < ps[k].1.tile.size ∧ ps[k].1.tile.size ≤ 120) = b1 := ⟨_, rfl⟩
       obtain ⟨b2, hb2⟩ : ∃ b2, decide (ps[k].2.tile.size ≤ 20 ∨ 60 < ps[k].2.tile.size ∧ ps[k].2.tile.size ≤ 120) = b2 := ⟨_, rfl⟩
       rw [hb1] at IB1
       rw [hb2] at IB2
       clear hb1 hb2
       generalize ps[k] = sk at *
       obtain ⟨⟨t1, m1⟩, ⟨t2, m2⟩⟩ := sk
       simp only at c0 c1 c2 c3 IB1 IB2
       have HBA := Hi (HK.out.alloc HK.out.size (.cells #[.string t1, .int .i64 m1, .string t2, .int .i64 m2] 41))
       cases b1 with
       | true =>
        cases b2 with
        | true =>
         go_wp2_with (first | (go_at_call 14; with_reducible refine (IB1.out _).mono ?_; rintro e w5 ⟨rfl, h5⟩; subst w5) | (go_at_call 14; with_reducible refine (IB2.out _).mono ?_; rintro e w5 ⟨rfl, h5⟩; subst w5))
         go_roundw
         case rel => exact ⟨k + 1, by have := HL.out; omega, by go_num, HBA⟩
         case measure =>
          have := HL.out
          simp [intOf]; omega
        | false =>
         go_wp2_with (first | (go_at_call 14; with_reducible refine (IB1.out _).mono ?_; rintro e w5 ⟨rfl, h5⟩; subst w5) | (go_at_call 14; with_reducible refine (IB2.out _).mono ?_; rintro e w5 ⟨rfl, h5⟩; subst w5))
         exact HR.out _ _ HBA.out
       | false =>
        go_wp2_with (go_at_call 14; refine (IB1.out _).mono ?_; rintro e w5 ⟨rfl, h5⟩; subst w5)
        exact HR.out _ _ HBA.out
     · have hke : k = ps.length := by omega
       subst hke
       have k1 : ¬ (ps.length : Int) < (ps.length : Int) := by omega
       go_wp2_with fail
       exact HR.out _ _ HK.out
theorem small_any (ts : List ByteArray) (ps : List PairD) (pt pp : Option Addr) (ct cp : Nat) (w : World) (hts : StrsAt w pt ts) (hps : PairsAt w pp ps) (hlt : ts.length ≤ maxLen) (hlp : ps.length ≤ maxLen)
 (hs : ∀ s, s ∈ ts → s.size ≤ maxLen) (hs2 : ∀ p, p ∈ ps → p.1.tile.size ≤ maxLen ∧ p.2.tile.size ≤ maxLen) :
 Calls Try.prog 5 #[.slice pt ts.length ct, .slice pp ps.length cp] w fun e w' => ∃ b : Bool, e = .returned (.bool b) ∧ Below w.heap.size w w' := by
 obtain ⟨Q, hQ⟩ : ∃ Q : Ending → World → Prop, Q = fun e w' => ∃ b : Bool, e = .returned (.bool b) ∧ Below w.heap.size w w' := ⟨_, rfl⟩
 rw [← hQ]
 have HR : Hid (∀ w' (b : Bool), Below w.heap.size w w' → Q (.returned (.bool b)) w') := Hi (fun w' b hb => by rw [hQ]; exact ⟨b, rfl, hb⟩)
 have H3 : Hid (∀ (KX : Act → World → Prop), (∀ a w, Code.wp Try.prog small3 (bodyPost Try.prog Try.f5 Q) a w → KX a w) → SmNext ts ps pt pp ct cp w KX) := Hi (by
  intro KX hKX u2 u3 u4 u5 u6 u7 u8 u9 u10 u11 u12 u13 u14 u15 u16 u17 u18 u19 u20 u21 u22 u23 u24 u25 u26 u27 u28 u29 u30 u31 u32 u33 u34 u35 u36 u37 u38 u39 u40 u41 u42 u43 u44 u45 u46 u47 u48 u49 u50 u51 u52 u53 u54 u55
  exact hKX _ _ (small_t3 ts ps pt pp ct cp w hts hps hlt hlp hs hs2 HR))
 unfold maxLen at hlt hlp
 clear hQ hts hps hs hs2
 go_enter Try.func5, Try.ntmps5
 refine wp_seq_k (fun KX0 hKX0 => ?_)
 have HKX0 := Lib.hid hKX0
 clear hKX0
 go_wp2_with fail
 refine HKX0.out _ _ ?_
 clear HKX0
 refine wp_seq_k (fun KX hKX => ?_)
 have HN := H3.out KX hKX
 clear hKX H3
 by_cases a1 : 20 < ts.length
 · by_cases a2 : ts.length ≤ 200
   · have e1 : decide (20 < ts.length) = true := decide_eq_true a1
     have e2 : decide (ts.length ≤ 200) = true := decide_eq_true a2
     have i1 : (20 : Int) < (ts.length : Int) := by omega
     have i2 : (ts.length : Int) ≤ 200 := by omega
     clear HN
     go_wp2_with fail
     exact HR.out _ _ (Below.refl _ _)
   · have e1 : decide (20 < ts.length) = true := decide_eq_true a1
     have e2 : decide (ts.length ≤ 200) = false := decide_eq_false a2
     have i1 : (20 : Int) < (ts.length : Int) := by omega
     have i2 : ¬ (ts.length : Int) ≤ 200 := by omega
     by_cases a3 : 40 < ps.length
     · by_cases a4 : ps.length ≤ 600
       · have e3 : decide (40 < ps.length) = true := decide_eq_true a3
         have e4 : decide (ps.length ≤ 600) = true := decide_eq_true a4
         clear HN
         go_wp2_with fail
         exact HR.out _ _ (Below.refl _ _)
       · have e3 : decide (40 < ps.length) = true := decide_eq_true a3
         have e4 : decide (ps.length ≤ 600) = false := decide_eq_false a4
         go_wp2_with fail
         exact HN _ _ _ _ _ _ _ _ _ _ _ _ _ _ _ _ _ _ _ _ _ _ _ _ _ _ _ _ _ _ _ _ _ _ _ _ _ _ _ _ _ _ _ _ _ _ _ _ _ _ _ _ _ _
     · have e3 : decide (40 < ps.length) = false := decide_eq_false a3
       go_wp2_with fail
       exact HN _ _ _ _ _ _ _ _ _ _ _ _ _ _ _ _ _ _ _ _ _ _ _ _ _ _ _ _ _ _ _ _ _ _ _ _ _ _ _ _ _ _ _ _ _ _ _ _ _ _ _ _ _ _
 · have e1 : decide (20 < ts.length) = false := decide_eq_false a1
   by_cases a3 : 40 < ps.length
   · by_cases a4 : ps.length ≤ 600
     · have e3 : decide (40 < ps.length) = true := decide_eq_true a3
       have e4 : decide (ps.length ≤ 600) = true := decide_eq_true a4
       clear HN
       go_wp2_with fail
       exact HR.out _ _ (Below.refl _ _)
     · have e3 : decide (40 < ps.length) = true := decide_eq_true a3
       have e4 : decide (ps.length ≤ 600) = false := decide_eq_false a4
       go_wp2_with fail
       exact HN _ _ _ _ _ _ _ _ _ _ _ _ _ _ _ _ _ _ _ _ _ _ _ _ _ _ _ _ _ _ _ _ _ _ _ _ _ _ _ _ _ _ _ _ _ _ _ _ _ _ _ _ _ _
   · have e3 : decide (40 < ps.length) = false := decide_eq_false a3
     go_wp2_with fail
     exact HN _ _ _ _ _ _ _ _ _ _ _ _ _ _ _ _ _ _ _ _ _ _ _ _ _ _ _ _ _ _ _ _ _ _ _ _ _ _ _ _ _ _ _ _ _ _ _ _ _ _ _ _ _ _
end Go.Proofs.Ytkndmibmmoikbaa
namespace Go.Proofs.Ytkndmibmmoikbaa
open Go.RowKit
open Cox (Tl)
theorem few_any (cys : List CycA) (pc : Option Addr) (cc : Nat) (w : World) (hcs : CycsAt w pc cys) (hlc : cys.length ≤ maxLen) (hs3 : ∀ y, y ∈ cys → y.y.tiles.length ≤ maxLen ∧ ∀ s, s ∈ y.y.tiles → s.size ≤ maxLen) :
 Calls Try.prog 6 #[.slice pc cys.length cc] w fun e w' => ∃ b : Bool, e = .returned (.bool b) ∧ Below w.heap.size w w' ∧ (b = true → cys.length ≤ 100 ∧ ∀ y, y ∈ cys → y.y.tiles.length ≤ 50) := by
 obtain ⟨Q, hQ⟩ : ∃ Q : Ending → World → Prop, Q = fun e w' => ∃ b : Bool, e = .returned (.bool b) ∧ Below w.heap.size w w' ∧ (b = true → cys.length ≤ 100 ∧ ∀ y, y ∈ cys → y.y.tiles.length ≤ 50) := ⟨_, rfl⟩
 rw [← hQ]
 have HN : Hid (∀ w', Below w.heap.size w w' → Q (.returned (.bool false)) w') := Hi (fun w' hb => by rw [hQ]; exact ⟨false, rfl, hb, fun h => by cases h⟩)
 have HY : Hid (∀ w', Below w.heap.size w w' → cys.length ≤ 100 → (∀ y, y ∈ cys → y.y.tiles.length ≤ 50) → Q (.returned (.bool true)) w') := Hi (fun w' hb h1 h2 => by rw [hQ]; exact ⟨true, rfl, hb, fun _ => ⟨h1, h2⟩⟩)
 have HCS := Lib.hid hcs
 have HS3 := Lib.hid hs3
 unfold maxLen at hlc
 clear hQ hcs hs3
 by_cases hbig : 100 < cys.length
 · have i1 : (100 : Int) < (cys.length : Int) := by omega
   have d1 : decide (100 < cys.length) = true := decide_eq_true hbig
   go_enter Try.func6, Try.ntmps6
   go_wp2_with fail
   exact HN.out _ (Below.refl _ _)
 · have i1 : ¬ (100 : Int) < (cys.length : Int) := by omega
   have HL100 : Hid (cys.length ≤ 100) := Hi (by omega)
   go_enter Try.func6, Try.ntmps6
   go_wp2_with fail
   go_loopw [12] (fun t wr => ∃ k : Nat, k ≤ cys.length ∧ t = .int .i64 (k : Nat) ∧ Hid (Below w.heap.size w wr ∧ ∀ i (h : i < cys.length), i < k → cys[i].y.tiles.length ≤ 50)) (fun t _ => cys.length - (intOf t).toNat)
   case atStart => exact ⟨0, by omega, rfl, Lib.hid ⟨Below.refl _ _, fun i h h2 => by omega⟩⟩
   case round =>
    obtain ⟨k, hk, rfl, HK⟩ := hrel
    by_cases hl : k < cys.length
    · obtain ⟨b0, o0, hp, hr⟩ := (HCS.out.below HK.out.1) (by intro h; rw [h] at hl; simp at hl)
      obtain ⟨q0, q1, q2, q3, q4, q5⟩ := hr k hl
      subst hp
      have k1 : (k : Int) < (cys.length : Int) := by omega
      have k2 : (0 : Int) ≤ (k : Int) := by omega
      have HL := Lib.hid hl
      have HC3 := Hi (HS3.out _ (List.getElem_mem hl))
      have Q5 := Lib.hid q5
      have HNX : Hid (cys[k].y.tiles.length ≤ 50 → ∀ i (h : i < cys.length), i < k + 1 → cys[i].y.tiles.length ≤ 50) := Hi (fun h0 i hi h2 => by
       by_cases e : i = k
       · subst e; exact h0
       · exact HK.out.2 i hi (by omega))
      clear hr q5
      generalize cys[k] = ck at *
      obtain ⟨pk, ck, yk⟩ := ck
      simp only at q0 q1 q2 q3 q4
      have hbx := (Below.refl wr.heap.size wr).alloc (Nat.le_refl _) (.cells #[.slice pk yk.tiles.length ck, .int .i64 yk.i, .int .i64 yk.j, .int .i64 yk.rounds, .bool yk.mir] 48)
      have HBX := Hi (HK.out.1.trans (hbx.mono HK.out.1.size))
      have HQ5 := Hi (Q5.out.below hbx)
      clear hbx
      by_cases h50 : 50 < yk.tiles.length
      · have j1 : (50 : Int) < (yk.tiles.length : Int) := by omega
        have d1 : decide (50 < yk.tiles.length) = true := decide_eq_true h50
        go_wp2_with fail
        exact HN.out _ HBX.out
      · have j1 : ¬ (50 : Int) < (yk.tiles.length : Int) := by omega
        have H50 : Hid (yk.tiles.length ≤ 50) := Hi (by omega)
        have HYC : Hid (∀ s, s ∈ yk.tiles → s.size ≤ maxLen) := Lib.hid HC3.out.2
        clear h50
        go_upto_region 8 with fail
        have hob := str_new wr #[.slice pk yk.tiles.length ck, .int .i64 yk.i, .int .i64 yk.j, .int .i64 yk.rounds, .bool yk.mir] 48 _ rfl
        generalize wr.alloc (.cells #[.slice pk yk.tiles.length ck, .int .i64 yk.i, .int .i64 yk.j, .int .i64 yk.rounds, .bool yk.mir] 48) = wA at *
        have x0 : wA.cell? ⟨wr.heap.size, 0, none⟩ = some (.slice pk yk.tiles.length ck) := by rw [cell_of hob]; rfl
        clear hob q0 q1 q2 q3 q4
        go_wp2_with fail
        go_loopw [23] (fun t wq => ∃ j : Nat, j ≤ yk.tiles.length ∧ t = .int .i64 (j : Nat) ∧ wq = wA) (fun t _ => yk.tiles.length - (intOf t).toNat)
        case atStart => exact ⟨0, by omega, rfl, rfl⟩
        case round =>
         obtain ⟨j, hj, rfl, rfl⟩ := hrel
         by_cases hjl : j < yk.tiles.length
         · obtain ⟨b1, o1, hp1, hr1⟩ := HQ5.out (by intro h; rw [h] at hjl; simp at hjl)
           have c0 := hr1 j hjl
           have hp1 : pk = _ := hp1
           subst hp1
           have j2 : (j : Int) < (yk.tiles.length : Int) := by omega
           have j3 : (0 : Int) ≤ (j : Int) := by omega
           have HJ := Lib.hid hjl
           have hsz := HYC.out _ (List.getElem_mem hjl)
           clear hr1
           generalize yk.tiles[j] = sj at *
           by_cases h100 : 100 < sj.size
           · have d1 : decide (100 < sj.size) = true := decide_eq_true h100
             have d2 : (100 : Int) < (sj.size : Int) := by omega
             go_wp2_with fail
             exact HN.out _ HBX.out
           · have d1 : decide (100 < sj.size) = false := decide_eq_false h100
             have d2 : ¬ (100 : Int) < (sj.size : Int) := by omega
             go_wp2_with fail
             go_roundw
             case rel => exact ⟨j + 1, by have := HJ.out; omega, by go_num, trivial⟩
             case measure =>
              have := HJ.out
              simp [intOf]; omega
         · have hje : j = yk.tiles.length := by omega
           subst hje
           have j2 : ¬ (yk.tiles.length : Int) < (yk.tiles.length : Int) := by omega
           go_wp2_with fail
           go_roundw
           case rel => exact ⟨k + 1, by have := HL.out; omega, by go_num, Lib.hid ⟨HBX.out, HNX.out H50.out⟩⟩
           case measure =>
            have := HL.out
            simp [intOf]; omega
    · have hke : k = cys.length := by omega
      subst hke
      have k1 : ¬ (cys.length : Int) < (cys.length : Int) := by omega
      go_wp2_with fail
      refine HY.out _ HK.out.1 HL100.out (fun y hy => ?_)
      obtain ⟨i, hi, rfl⟩ := List.getElem_of_mem hy
      exact HK.out.2 i hi hi
end Go.Proofs.Ytkndmibmmoikbaa
