/- Chapter 10: Rd7. -/
import Derived.Test.YtkndmibmmoikbaaC34
set_option linter.all false
set_option maxRecDepth 100000
set_option maxHeartbeats 16000000
namespace Go.Proofs.Ytkndmibmmoikbaa
open Go.RowKit
open Cox (Tl)
noncomputable def read15 : Code := (Try.f17.body.bind (fromR 15)).getD .skip
def RdNext26 {K : Type} [Cox.OR K] (W : Cox.Tri K) (H bl bo br : Nat) (a b c : Int) (vt vm : Value) (ws : List (List (Fin 3))) (f g : Nat → Nat → Int) (pp : Option Addr) (cp : Nat) (ps : List PairD) (wi : World) (KX : Act → World → Prop) : Prop :=
 ∀ (vto vput : Value) (wx : World) (u0 u1 u4 u5 u7 u8 u10 u11 u12 u13 u14 u15 u16 u17 u18 u19 u20 u21 u22 u23 u24 u25 u26 u27 u28 u29 u30 u31 u32 u33 u34 u35 u36 u37 u38 u39 u40 u41 u42 u43 u44 u45 u46 u47 u48 u49 u50 u51 u52 u53 u54 u55 u56 u57 u58 u59 u60 u61 u62 u63 u64 u65 u66 u67 u68 u69 u70 u71 u72 u73 u74 u75 u76 u77 u78 u79 u80 u81 u82 u83 u84 u85 u86 u87 u88 u89 u90 u91 u92 u93 u94 u95 u96 u97 u98 u99 u100 u101 u102 u103 u104 u105 u106 u107 u108 u109 u110 u111 u112 u113 u114 u115 u116 u117 u118 u119 u120 u121 u122 u123 u124 u125 u126 u127 u128 u129 u130 u131 u132 u133 u134 u135 u136 u137 u138 u139 u140 u141 u142 u143 u144 u145 u146 u147 u148 u149 u150 u151 u152 u153 u154 u155 u156 u157 u158 u159 u160 u161 u162 u163 u164 u165 u166 u167 u168 u169 u170 u171 u172 u173 u174 u175 u176 u177 u178 u179 u180 u181 u182 u183 u184 u185 u186 u187 u188 u189 u190 u191 u192 u193 u194 u195 u196 u197 u198 u199 u200 u201 u202 u203 u204 u205 u206 u207 u208 u209 u210 u211 u212 u213 u214 u215 u216 u217 u218 u219 u220 u221 u222 u223 u224 u225 u226 u227 u228 u229 u230 u231 u232 u233 u234 u235 : Value), LRep H bl bo br a b c vt vto vput vm (ws.map wb) ws.length ws.length f g [] wi wx → KX ⟨#[u0, u1, .slice pp ps.length cp, .pointer (some ⟨bo, 0, none⟩), u4, u5, .pointer (some ⟨br, 0, none⟩), u7, u8, .pointer (some ⟨bl, 0, none⟩), u10, u11, u12, u13, u14, u15, u16, u17, u18, u19, u20, u21, u22, u23, u24, u25, u26, u27, u28, u29, u30, u31, u32, u33, u34, u35, u36, u37, u38, u39, u40, u41, u42, u43, u44, u45, u46, u47, u48, u49, u50, u51, u52, u53, u54, u55, u56, u57, u58, u59, u60, u61, u62, u63, u64, u65, u66, u67, u68, u69, u70, u71, u72, u73, u74, u75, u76, u77, u78, u79, u80, u81, u82, u83, u84, u85, u86, u87, u88, u89, u90, u91, u92, u93, u94, u95, u96, u97, u98, u99, u100, u101, u102, u103, u104, u105, u106, u107, u108, u109, u110, u111, u112, u113, u114, u115, u116, u117, u118, u119, u120, u121, u122, u123, u124, u125, u126, u127, u128, u129, u130, u131, u132, u133, u134, u135, u136, u137, u138, u139, u140, u141, u142, u143, u144, u145, u146, u147, u148, u149, u150, u151, u152, u153, u154, u155, u156, u157, u158, u159, u160, u161, u162, u163, u164, u165, u166, u167, u168, u169, u170, u171, u172, u173, u174, u175, u176, u177, u178, u179, u180, u181, u182, u183, u184, u185, u186, u187, u188, u189, u190, u191, u192, u193, u194, u195, u196, u197, u198, u199, u200, u201, u202, u203, u204, u205, u206, u207, u208, u209, u210, u211, u212, u213, u214, u215, u216, u217, u218, u219, u220, u221, u222, u223, u224, u225, u226, u227, u228, u229, u230, u231, u232, u233, u234, u235], []⟩ wx
def toRow (f : Nat → Int) (i : Nat) : Array Value := #[.int .i64 (if 0 < i then f 0 else 0), .int .i64 (if 1 < i then f 1 else 0), .int .i64 (if 2 < i then f 2 else 0)]
theorem toRow_cell {w : World} {bt : Nat} {f : Nat → Int} {k i : Nat} (h : w.heap[bt]? = some (.cells (toRow f k) 103 (0, 0))) (hi : i < 3) : w.cell? ⟨bt, i, none⟩ = some (.int .i64 (if i < k then f i else 0)) ∧ w.frozen? ⟨bt, i, none⟩ = false := by
 refine ⟨?_, free_of h i⟩
 rw [cell_of h]
 unfold toRow
 have : i = 0 ∨ i = 1 ∨ i = 2 := by omega
 rcases this with rfl | rfl | rfl <;> rfl
theorem toRow_set {w : World} {bt : Nat} {f : Nat → Int} {i : Nat} (h : w.heap[bt]? = some (.cells (toRow f i) 103 (0, 0))) (hi : i < 3) : (w.setCell ⟨bt, i, none⟩ (.int .i64 (f i))).heap[bt]? = some (.cells (toRow f (i + 1)) 103 (0, 0)) := by
 rw [heap_setCell', if_pos rfl, h]
 have : i = 0 ∨ i = 1 ∨ i = 2 := by omega
 rcases this with rfl | rfl | rfl <;> rfl
theorem read_t15 {K : Type} [Cox.OR K] {W : Cox.Tri K} {Q : Ending → World → Prop} {H bl bo br : Nat} {a b c : Int} {vt vto vput vm : Value} {ws : List (List (Fin 3))} {ps : List PairD} {f g : Nat → Nat → Int} {w0 wi wz : World} {e : Int} {pp : Option Addr} {cp : Nat}
 (HRW : Hid (RW W a b c)) (HE : Hid (RdEnd W a b c br ws (glu (eds W ps)) e w0 Q)) (hw : Below w0.heap.size w0 wi) (hbr : w0.heap.size ≤ br) (hwl : ws.length ≤ 200) (hw0 : 0 < ws.length) (hnd : ws.Nodup) (hul : ∀ u, u ∈ ws → u.length ≤ 60) (hlp : ps.length ≤ 600) (hps : PairsAt w0 pp ps) (hpg : ∀ q, q ∈ ps → cpair q = 0) (hr : LRep H bl bo br a b c vt vto vput vm (ws.map wb) 0 0 f g [] wi wz)
 (hf : ∀ t (h : t < ws.length) (i : Fin 3), f t i.val = zidx ws (Nb W ws[t] i)) (hg : ∀ t i, g t i = 0)
 (he7 : ¬ Conn W ws → e = 7) (he0 : Conn W ws → PairSeq W ws [] (eds W ps) → e = 0) (he8 : Conn W ws → ¬ PairSeq W ws [] (eds W ps) → e = 8) {u0 u1 u4 u5 u7 u8 u10 u11 u12 u13 u14 u15 u16 u17 u18 u19 u20 u21 u22 u23 u24 u25 u26 u27 u28 u29 u30 u31 u32 u33 u34 u35 u36 u37 u38 u39 u40 u41 u42 u43 u44 u45 u46 u47 u48 u49 u50 u51 u52 u53 u54 u55 u56 u57 u58 u59 u60 u61 u62 u63 u64 u65 u66 u67 u68 u69 u70 u71 u72 u73 u74 u75 u76 u77 u78 u79 u80 u81 u82 u83 u84 u85 u86 u87 u88 u89 u90 u91 u92 u93 u94 u95 u96 u97 u98 u99 u100 u101 u102 u103 u104 u105 u106 u107 u108 u109 u110 u111 u112 u113 u114 u115 u116 u117 u118 u119 u120 u121 u122 u123 u124 u125 u126 u127 u128 u129 u130 u131 u132 u133 u134 u135 u136 u137 u138 u139 u140 u141 u142 u143 u144 u145 u146 u147 u148 u149 u150 u151 u152 u153 u154 u155 u156 u157 u158 u159 u160 u161 u162 u163 u164 u165 u166 u167 u168 u169 u170 u171 u172 u173 u174 u175 u176 u177 u178 u179 u180 u181 u182 u183 u184 u185 u186 u187 u188 u189 u190 u191 u192 u193 u194 u195 u196 u197 u198 u199 u200 u201 u202 u203 u204 u205 u206 u207 u208 u209 u210 u211 u212 u213 u214 u215 u216 u217 u218 u219 u220 u221 u222 u223 u224 u225 u226 u227 u228 u229 u230 u231 u232 u233 u234 u235 : Value} :
 Code.wp Try.prog read15 (bodyPost Try.prog Try.f17 Q) ⟨#[u0, u1, .slice pp ps.length cp, .pointer (some ⟨bo, 0, none⟩), u4, u5, .pointer (some ⟨br, 0, none⟩), u7, u8, .pointer (some ⟨bl, 0, none⟩), u10, u11, u12, u13, u14, u15, u16, u17, u18, u19, u20, u21, u22, u23, u24, u25, u26, u27, u28, u29, u30, u31, u32, u33, u34, u35, u36, u37, u38, u39, u40, u41, u42, u43, u44, u45, u46, u47, u48, u49, u50, u51, u52, u53, u54, u55, u56, u57, u58, u59, u60, u61, u62, u63, u64, u65, u66, u67, u68, u69, u70, u71, u72, u73, u74, u75, u76, u77, u78, u79, u80, u81, u82, u83, u84, u85, u86, u87, u88, u89, u90, u91, u92, u93, u94, u95, u96, u97, u98, u99, u100, u101, u102, u103, u104, u105, u106, u107, u108, u109, u110, u111, u112, u113, u114, u115, u116, u117, u118, u119, u120, u121, u122, u123, u124, u125, u126, u127, u128, u129, u130, u131, u132, u133, u134, u135, u136, u137, u138, u139, u140, u141, u142, u143, u144, u145, u146, u147, u148, u149, u150, u151, u152, u153, u154, u155, u156, u157, u158, u159, u160, u161, u162, u163, u164, u165, u166, u167, u168, u169, u170, u171, u172, u173, u174, u175, u176, u177, u178, u179, u180, u181, u182, u183, u184, u185, u186, u187, u188, u189, u190, u191, u192, u193, u194, u195, u196, u197, u198, u199, u200, u201, u202, u203, u204, u205, u206, u207, u208, u209, u210, u211, u212, u213, u214, u215, u216, u217, u218, u219, u220, u221, u222, u223, u224, u225, u226, u227, u228, u229, u230, u231, u232, u233, u234, u235], []⟩ wz := by
 have HR := Lib.hid hr
 have HF := Lib.hid hf
 have HUL := Lib.hid hul
 have HG := Lib.hid hg
 conv => arg 2; whnf
 refine wp_seq_k (fun KX hKX => ?_)
 have HK26 : RdNext26 W H bl bo br a b c vt vm ws f g pp cp ps wi KX := by
  intro vto vput wx u0 u1 u4 u5 u7 u8 u10 u11 u12 u13 u14 u15 u16 u17 u18 u19 u20 u21 u22 u23 u24 u25 u26 u27 u28 u29 u30 u31 u32 u33 u34 u35 u36 u37 u38 u39 u40 u41 u42 u43 u44 u45 u46 u47 u48 u49 u50 u51 u52 u53 u54 u55 u56 u57 u58 u59 u60 u61 u62 u63 u64 u65 u66 u67 u68 u69 u70 u71 u72 u73 u74 u75 u76 u77 u78 u79 u80 u81 u82 u83 u84 u85 u86 u87 u88 u89 u90 u91 u92 u93 u94 u95 u96 u97 u98 u99 u100 u101 u102 u103 u104 u105 u106 u107 u108 u109 u110 u111 u112 u113 u114 u115 u116 u117 u118 u119 u120 u121 u122 u123 u124 u125 u126 u127 u128 u129 u130 u131 u132 u133 u134 u135 u136 u137 u138 u139 u140 u141 u142 u143 u144 u145 u146 u147 u148 u149 u150 u151 u152 u153 u154 u155 u156 u157 u158 u159 u160 u161 u162 u163 u164 u165 u166 u167 u168 u169 u170 u171 u172 u173 u174 u175 u176 u177 u178 u179 u180 u181 u182 u183 u184 u185 u186 u187 u188 u189 u190 u191 u192 u193 u194 u195 u196 u197 u198 u199 u200 u201 u202 u203 u204 u205 u206 u207 u208 u209 u210 u211 u212 u213 u214 u215 u216 u217 u218 u219 u220 u221 u222 u223 u224 u225 u226 u227 u228 u229 u230 u231 u232 u233 u234 u235 h1
  exact hKX _ _ (read_t26 HRW HE hw hbr hwl hw0 hnd hlp hps hpg h1 hf hg he7 he0 he8)
 obtain ⟨pt, ct, hvt, hst⟩ := hr.strs
 have x3 : wz.cell? ⟨bl, 3, none⟩ = some (.slice pt ws.length ct) := by rw [hr.cells.1, hvt]
 have HVT := Lib.hid hvt
 clear hKX hr hf hul hg hw hbr hnd hps hpg he7 he0 he8 hst hvt
 go_wp2_with fail
 go_loopw [65] (fun t wr => ∃ (k : Nat) (vto vput : Value), k ≤ ws.length ∧ t = .int .i64 (k : Nat) ∧ Hid (LRep H bl bo br a b c vt vto vput vm (ws.map wb) k k f g [] wi wr)) (fun t _ => ws.length - (intOf t).toNat)
 case atStart => exact ⟨0, vto, vput, by omega, rfl, HR⟩
 case round =>
  obtain ⟨k, vto, vput, hk, rfl, HK⟩ := hrel
  by_cases hlt : k < ws.length
  · obtain ⟨pt', ct', hvt', hst⟩ := HK.out.strs
    have hpt : pt = pt' := by rw [HVT.out] at hvt'; simp at hvt'; exact hvt'.1
    obtain ⟨b0, o0, hpe, hrow⟩ := hst (by intro e; have := congrArg List.length e; simp at this; rw [this] at hlt; simp at hlt)
    have q0 := hrow k (by simpa using hlt)
    rw [List.getElem_map] at q0
    rw [← hpt] at hpe
    have HPE := Lib.hid hpe
    subst hpe
    have k1 : (k : Int) < (ws.length : Int) := by omega
    have k2 : (0 : Int) ≤ (k : Int) := by omega
    have HLT := Lib.hid hlt
    have HU60 := Hi (HUL.out _ (List.getElem_mem hlt))
    have HFK := Hi (fun i => HF.out k hlt i)
    clear hrow hst hpt hvt'
    generalize ws[k] = u at *
    go_upto_region 19 with fail
    have hwa := (Below.refl wr.heap.size wr).alloc (Nat.le_refl _) (.cells #[.int .i64 0, .int .i64 0, .int .i64 0] 103)
    have hca := str_new wr #[.int .i64 0, .int .i64 0, .int .i64 0] 103 _ rfl
    have HFR := Hi (And.intro (HK.out.fresh (Nat.le_refl _)) HK.out.big.2.2.2.1)
    generalize wr.alloc (.cells #[.int .i64 0, .int .i64 0, .int .i64 0] 103) = wa at *
    have HA : Hid (LRep H bl bo br a b c vt vto vput vm (ws.map wb) k k f g [] wi wa ∧ wa.heap[wr.heap.size]? = some (.cells (toRow (f k) 0) 103 (0, 0))) := Lib.hid ⟨HK.out.below hwa, hca⟩
    clear hwa hca q0
    generalize wr.heap.size = bt at *
    go_wp2_with fail
    go_loopw [16] (fun t wq => ∃ i : Nat, i ≤ 3 ∧ t = .int .i64 (i : Nat) ∧ Hid (LRep H bl bo br a b c vt vto vput vm (ws.map wb) k k f g [] wi wq ∧ wq.heap[bt]? = some (.cells (toRow (f k) i) 103 (0, 0)))) (fun t _ => 3 - (intOf t).toNat)
    case atStart => exact ⟨0, by omega, rfl, HA⟩
    case round =>
     obtain ⟨i, hi, rfl, HI⟩ := hrel
     by_cases hi3 : i < 3
     · obtain ⟨fi, hfi⟩ : ∃ fi : Fin 3, i = fi.val := ⟨⟨i, hi3⟩, rfl⟩
       subst hfi
       have i1 : (fi.val : Int) < 3 := by omega
       have i2 : (0 : Int) ≤ (fi.val : Int) := by omega
       have HFI := Lib.hid hi3
       have d3 : wr.drew.cell? ⟨bl, 3, none⟩ = some (.slice (some ⟨b0, o0, none⟩) ws.length ct) := by
        have := HI.out.1.cells.1
        rw [HVT.out] at this
        exact this
       have do0 : wr.drew.cell? ⟨bo, 0, none⟩ = some (.int .i64 a) := HI.out.1.cells.2.2.2.2.1
       have do1 : wr.drew.cell? ⟨bo, 1, none⟩ = some (.int .i64 b) := HI.out.1.cells.2.2.2.2.2.1
       have do2 : wr.drew.cell? ⟨bo, 2, none⟩ = some (.int .i64 c) := HI.out.1.cells.2.2.2.2.2.2
       have HSD : Hid (LRep H bl bo br a b c vt vto vput vm (ws.map wb) k k f g [] wi wr.drew ∧ wr.drew.heap[bt]? = some (.cells (toRow (f k) fi.val) 103 (0, 0))) := Lib.hid ⟨HI.out.1.below ((Below.refl _ _).drew), HI.out.2⟩
       have WL := Hi (fun w => HRW.out (u ++ [fi]) (by have := HU60.out; simp; omega) w)
       rw [nf_nb] at WL
       unfold oval at WL
       have IX : Hid (∀ w5, LRep H bl bo br a b c vt vto vput vm (ws.map wb) k k f g [] wi w5 → Calls Try.prog 39 #[.slice (some ⟨b0, o0, none⟩) ws.length ct, .string (wb (Nb W u fi))] w5 fun e w' => e = .returned (.int .i64 (f k fi.val)) ∧ w' = w5) := Hi (fun w5 h5 => by
        obtain ⟨pt', ct', hvt', hst⟩ := h5.strs
        have hpt : some ⟨b0, o0, none⟩ = pt' := by rw [HVT.out] at hvt'; simp at hvt'; exact hvt'.1
        rw [← hpt] at hst
        have := index_any (ws.map wb) (wb (Nb W u fi)) (some ⟨b0, o0, none⟩) ct (by simp; omega) w5 hst
        rw [place_wb, List.length_map, ← HFK.out fi] at this
        exact this)
       have hap := wb_append u [fi]
       have hz1 : (wb [fi]).size = 1 := by rw [wb_size]; rfl
       have hsz : ¬ 9223372036854775807 < (wb u).size + 1 := by have := HU60.out; rw [wb_size]; omega
       have hwr := wrap_u8_fin fi
       clear hi hi3
       go_upto_region 22 with fail
       refine e_begin (fun w' => w'.cell? ⟨bl, 3, none⟩ = some (.slice (some ⟨b0, o0, none⟩) ws.length ct) ∧ w'.cell? ⟨bo, 0, none⟩ = some (.int .i64 a) ∧ w'.cell? ⟨bo, 1, none⟩ = some (.int .i64 b) ∧ w'.cell? ⟨bo, 2, none⟩ = some (.int .i64 c)) 13 (by kernel_rfl) (⟨d3, do0, do1, do2⟩) (fun hHeld => ?_)
       generalize wr.drew = wd at *
       refine ey 0 hHeld ?_
       try simp only [ly]
       refine ey 1 hHeld ?_
       try simp only [ly]
       refine ey 2 hHeld ?_
       try simp only [ly]
       refine ey 3 hHeld ?_
       try simp only [ly]
       refine ey 4 hHeld ?_
       try simp only [ly]
       refine ey 5 hHeld ?_
       try simp only [ly]
       refine ey 6 hHeld ?_
       try simp only [ly]
       refine e_step (i := 7) rfl (by kernel_rfl) (fun K' hK => ?_)
       go_simp
       have hbA := (Below.refl wd.heap.size wd).alloc (Nat.le_refl _) (.cells #[.int .u8 (fi.val : Int)] 5)
       have hcA := str_new wd #[.int .u8 (fi.val : Int)] 5 _ rfl
       have HLA := Hi (And.intro (HSD.out.1.below hbA) ((hbA.block _ (Array.getElem?_eq_some_iff.1 HSD.out.2).1).trans HSD.out.2))
       have hcv := conv_byte fi (wd.alloc (.cells #[.int .u8 (fi.val : Int)] 5)) ⟨wd.heap.size, 0, none⟩ rfl (by rw [cell_of hcA]; rfl)
       obtain ⟨y0, y1, y2, y3⟩ := hHeld
       have g0 := cell_stays hbA y0
       have g1 := cell_stays hbA y1
       have g2 := cell_stays hbA y2
       have g3 := cell_stays hbA y3
       clear y0 y1 y2 y3 hbA hcA
       refine hK.out _ _ (fun _ => ⟨g0, g1, g2, g3⟩) (fun hH => ?_)
       have hHeld := hH (by decide)
       clear hK K' hH
       try simp only [ly]
       refine e_step (i := 8) rfl (by kernel_rfl) (fun K' hK => ?_)
       go_simp
       refine hK.out _ _ (fun _ => hHeld) (fun hH => ?_)
       have hHeld := hH (by decide)
       clear hK K' hH
       try simp only [ly]
       refine ey 9 hHeld ?_
       try simp only [ly]
       refine e_step (i := 10) rfl (by kernel_rfl) (fun K' hK => ?_)
       go_simp
       go_at_call 38
       refine (WL.out _).mono ?_
       rintro e w5 ⟨rfl, hb5⟩
       have HL5 := Hi (And.intro (HLA.out.1.below hb5) ((hb5.block _ (Array.getElem?_eq_some_iff.1 HLA.out.2).1).trans HLA.out.2))
       have k0 := cell_stays hb5 g0
       have k1 := cell_stays hb5 g1
       have k2 := cell_stays hb5 g2
       have k3 := cell_stays hb5 g3
       clear hb5 g0 g1 g2 g3
       refine hK.out _ _ (fun _ => ⟨k0, k1, k2, k3⟩) (fun hH => ?_)
       have hHeld := hH (by decide)
       clear hK K' hH
       try simp only [ly]
       refine e_step (i := 11) rfl (by kernel_rfl) (fun K' hK => ?_)
       go_simp
       go_at_call 39
       refine (IX.out _ HL5.out.1).mono ?_
       rintro e w6 ⟨rfl, h6⟩
       subst w6
       refine hK.out _ _ (fun _ => hHeld) (fun hH => ?_)
       have hHeld := hH (by decide)
       clear hK K' hH
       try simp only [ly]
       refine ey 12 hHeld ?_
       try simp only [ly]
       have hto5 := HL5.out.2
       obtain ⟨zc, zf⟩ := toRow_cell hto5 HFI.out
       refine e_step (i := 13) rfl (by kernel_rfl) (fun K' hK => ?_)
       go_simp
       refine hK.out _ _ (fun h => (h rfl).elim) (fun _ => ?_)
       clear hK K'
       try simp only [ly]
       refine e_done (by kernel_rfl) ?_ _
       have HN := Hi (And.intro (HL5.out.1.far (q := bt) (o := fi.val) (x := .int .i64 (f k fi.val)) HFR.out.2 HFR.out.1.1 HFR.out.1.2.1 HFR.out.1.2.2.1 HFR.out.1.2.2.2) (toRow_set HL5.out.2 HFI.out))
       generalize w5.setCell ⟨bt, fi.val, none⟩ (.int .i64 (f k fi.val)) = wn at *
       clear k0 k1 k2 k3 zc zf hto5
       go_wp2_with fail
       go_roundw
       case rel => exact ⟨fi.val + 1, by have := HFI.out; omega, by go_num, HN⟩
       case measure =>
        have := HFI.out
        simp [intOf]; omega
     · have hi3e : i = 3 := by omega
       subst hi3e
       obtain ⟨pto, cto, hpto⟩ := owns_form HI.out.1.rTo
       subst hpto
       obtain ⟨pp5, cp5, hpp5⟩ := owns_form HI.out.1.rPut
       subst hpp5
       obtain ⟨t0, _⟩ := toRow_cell HI.out.2 (i := 0) (by omega)
       obtain ⟨t1, _⟩ := toRow_cell HI.out.2 (i := 1) (by omega)
       obtain ⟨t2, _⟩ := toRow_cell HI.out.2 (i := 2) (by omega)
       rw [if_pos (by omega)] at t0 t1 t2
       have x4 : wr.cell? ⟨bl, 4, none⟩ = some (.slice pto k cto) := HI.out.1.cells.2.1
       have HOW := Hi (owns_keep (w' := wr.alloc (.cells #[.int .i64 (f k 0), .int .i64 (f k 1), .int .i64 (f k 2)] 103)) HI.out.1.rTo (fun q hq => Below.heap_alloc _ _ _ (owns_lt HI.out.1.rTo hq).1))
       have HHS : Hid (H ≤ (wr.alloc (.cells #[.int .i64 (f k 0), .int .i64 (f k 1), .int .i64 (f k 2)] 103)).heap.size) := Hi (by have h1 := HI.out.1.big.2.2.2.1; rw [World.size_alloc]; omega)
       obtain ⟨i103, hi103, hy0, hy1, hy2⟩ := info_parts info103
       have m1 : k + 1 ≤ maxLen := by unfold maxLen; omega
       have m2 : (k + 1) * 24 ≤ 140737488355328 := by omega
       have hn3 : ¬ ((3 : Nat) : Int) < 3 := by decide
       go_upto_region 24 with (at_builtin; refine wpList_append_lies _ rfl (.tmp 87) (.tmp 89) 52 rfl H 103 i103 _ 3 24 Try.underlying52 hi103 hy0 hy1 hy2 rfl (by decide) (.slice pto k cto) k (row3 k f) rfl HOW.out ⟨wr.heap.size, 0, none⟩ 1 1 [.int .i64 (f k 0), .int .i64 (f k 1), .int .i64 (f k 2)] rfl rfl (World.news_of_block (str_new _ _ _ _ rfl)) (by intro u hu; simp at hu; rcases hu with rfl | rfl | rfl <;> rfl) (by decide) m1 m2 HHS.out _ rfl ?_; intro g9 cap9 w9 hown9 hgr9 hat9 hlt9; have HF := Hi (HI.out.1.pushTo hown9 hgr9 hat9); have hb9 := grown_keep hgr9 (q := bl) (Array.getElem?_eq_some_iff.1 HI.out.1.box).1 (fun e => by have h1 := (owns_lt HI.out.1.rTo e).2; have h2 := HI.out.1.big; omega); have z1 : w9.cell? ⟨bl, 4, none⟩ = some (.slice pto k cto) := (by rw [cell_of (hb9.trans HI.out.1.box)]; rfl); have z2 := free_of (hb9.trans HI.out.1.box) 4; clear hown9 hgr9 hat9 hlt9 hb9)
       generalize w9.setCell ⟨bl, 4, none⟩ (.slice (some ⟨g9, 0, none⟩) (k + 1) cap9) = wn at *
       clear z1 z2 x4 t0 t1 t2 HOW HHS HI
       have x5 : wn.cell? ⟨bl, 5, none⟩ = some (.slice pp5 k cp5) := HF.out.cells.2.2.1
       have HOW := Hi (owns_keep (w' := wn.alloc (.cells #[.int .i64 0, .int .i64 0, .int .i64 0] 103)) HF.out.rPut (fun q hq => Below.heap_alloc _ _ _ (owns_lt HF.out.rPut hq).1))
       have HHS : Hid (H ≤ (wn.alloc (.cells #[.int .i64 0, .int .i64 0, .int .i64 0] 103)).heap.size) := Hi (by have h1 := HF.out.big.2.2.2.1; rw [World.size_alloc]; omega)
       go_upto_region 25 with (at_builtin; refine wpList_append_lies _ rfl (.tmp 93) (.tmp 95) 52 rfl H 103 i103 _ 3 24 Try.underlying52 hi103 hy0 hy1 hy2 rfl (by decide) (.slice pp5 k cp5) k (row3 k g) rfl HOW.out ⟨wn.heap.size, 0, none⟩ 1 1 [.int .i64 0, .int .i64 0, .int .i64 0] rfl rfl (World.news_of_block (str_new _ _ _ _ rfl)) (by intro u hu; simp at hu; subst hu; rfl) (by decide) m1 m2 HHS.out _ rfl ?_; intro g8 cap8 w8 hown8 hgr8 hat8 hlt8; have hown7 : w8.ownsRow H 103 3 (.slice (some ⟨g8, 0, none⟩) (k + 1) cap8) (k + 1) (row3 k g ++ [.int .i64 (g k 0), .int .i64 (g k 1), .int .i64 (g k 2)]) := (by rw [HG.out, HG.out, HG.out]; exact hown8); have HF2 := Hi (HF.out.pushPut hown7 hgr8 hat8); have hb8 := grown_keep hgr8 (q := bl) (Array.getElem?_eq_some_iff.1 HF.out.box).1 (fun e => by have h1 := (owns_lt HF.out.rPut e).2; have h2 := HF.out.big; omega); have z1 : w8.cell? ⟨bl, 5, none⟩ = some (.slice pp5 k cp5) := (by rw [cell_of (hb8.trans HF.out.box)]; rfl); have z2 := free_of (hb8.trans HF.out.box) 5; clear hown8 hown7 hgr8 hat8 hlt8 hb8)
       generalize w8.setCell ⟨bl, 5, none⟩ (.slice (some ⟨g8, 0, none⟩) (k + 1) cap8) = wm at *
       clear z1 z2 x5 HOW HHS HF
       go_wp2_with fail
       go_roundw
       case rel => exact ⟨k + 1, _, _, by have := HLT.out; omega, by go_num, HF2⟩
       case measure =>
        have := HLT.out
        simp [intOf]; omega
  · have hke : k = ws.length := by omega
    subst hke
    have k1 : ¬ (ws.length : Int) < (ws.length : Int) := by omega
    go_wp2_with fail
    exact HK26 vto vput wr _ _ _ _ _ _ _ _ _ _ _ _ _ _ _ _ _ _ _ _ _ _ _ _ _ _ _ _ _ _ _ _ _ _ _ _ _ _ _ _ _ _ _ _ _ _ _ _ _ _ _ _ _ _ _ _ _ _ _ _ _ _ _ _ _ _ _ _ _ _ _ _ _ _ _ _ _ _ _ _ _ _ _ _ _ _ _ _ _ _ _ _ _ _ _ _ _ _ _ _ _ _ _ _ _ _ _ _ _ _ _ _ _ _ _ _ _ _ _ _ _ _ _ _ _ _ _ _ _ _ _ _ _ _ _ _ _ _ _ _ _ _ _ _ _ _ _ _ _ _ _ _ _ _ _ _ _ _ _ _ _ _ _ _ _ _ _ _ _ _ _ _ _ _ _ _ _ _ _ _ _ _ _ _ _ _ _ _ _ _ _ _ _ _ _ _ _ _ _ _ _ _ _ _ _ _ _ _ _ _ _ _ _ _ _ _ _ _ _ _ _ _ _ _ _ _ _ _ _ _ _ _ HK.out
end Go.Proofs.Ytkndmibmmoikbaa
