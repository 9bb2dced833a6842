/- Chapter 10: Rd5 Rd6. -/
import Derived.Test.YtkndmibmmoikbaaC33
set_option linter.all false
set_option maxRecDepth 100000
set_option maxHeartbeats 16000000
namespace Go.Proofs.Ytkndmibmmoikbaa
open Go.RowKit
open Cox (Tl)
noncomputable def read28 : Code := (Try.f17.body.bind (fromR 28)).getD .skip
theorem res_facts {w : World} {br : Nat} (hres : w.heap[br]? = some (.cells #[.int .i64 0, .int .i64 0, .int .i64 0, .slice none 0 0, .slice none 0 0, .slice none 0 0, .slice none 0 0] 54 (0, 0))) :
 w.cell? ⟨br, 0, none⟩ = some (.int .i64 0) ∧ w.cell? ⟨br, 1, none⟩ = some (.int .i64 0) ∧ w.cell? ⟨br, 2, none⟩ = some (.int .i64 0) ∧ w.cell? ⟨br, 3, none⟩ = some (.slice none 0 0) ∧ w.cell? ⟨br, 4, none⟩ = some (.slice none 0 0) ∧ w.cell? ⟨br, 5, none⟩ = some (.slice none 0 0) ∧ w.cell? ⟨br, 6, none⟩ = some (.slice none 0 0) ∧
 w.frozen? ⟨br, 0, none⟩ = false ∧ w.frozen? ⟨br, 1, none⟩ = false ∧ w.frozen? ⟨br, 2, none⟩ = false ∧ w.frozen? ⟨br, 3, none⟩ = false ∧ w.frozen? ⟨br, 4, none⟩ = false ∧ w.frozen? ⟨br, 5, none⟩ = false ∧ w.frozen? ⟨br, 6, none⟩ = false :=
 ⟨by rw [cell_of hres]; rfl, by rw [cell_of hres]; rfl, by rw [cell_of hres]; rfl, by rw [cell_of hres]; rfl, by rw [cell_of hres]; rfl, by rw [cell_of hres]; rfl, by rw [cell_of hres]; rfl, free_of hres 0, free_of hres 1, free_of hres 2, free_of hres 3, free_of hres 4, free_of hres 5, free_of hres 6⟩
def RdNext {K : Type} [Cox.OR K] (W : Cox.Tri K) (H bl bo br : Nat) (a b c : Int) (vt vto vput : Value) (ws : List (List (Fin 3))) (ps : List PairD) (wi : World) (KX : Act → World → Prop) : Prop :=
 ∀ (f g : Nat → Nat → Int) (ms : List ByteArray) (vm : Value) (wx : World) (u0 u1 u2 u3 u4 u5 u7 u8 u10 u11 u12 u13 u14 u15 u16 u17 u18 u19 u20 u21 u22 u23 u24 u25 u26 u27 u28 u29 u30 u31 u32 u33 u34 u35 u36 u37 u38 u39 u40 u41 u42 u43 u44 u45 u46 u47 u48 u49 u50 u51 u52 u53 u54 u55 u56 u57 u58 u59 u60 u61 u62 u63 u64 u65 u66 u67 u68 u69 u70 u71 u72 u73 u74 u75 u76 u77 u78 u79 u80 u81 u82 u83 u84 u85 u86 u87 u88 u89 u90 u91 u92 u93 u94 u95 u96 u97 u98 u99 u100 u101 u102 u103 u104 u105 u106 u107 u108 u109 u110 u111 u112 u113 u114 u115 u116 u117 u118 u119 u120 u121 u122 u123 u124 u125 u126 u127 u128 u129 u130 u131 u132 u133 u134 u135 u136 u137 u138 u139 u140 u141 u142 u143 u144 u145 u146 u147 u148 u149 u150 u151 u152 u153 u154 u155 u156 u157 u158 u159 u160 u161 u162 u163 u164 u165 u166 u167 u168 u169 u170 u171 u172 u173 u174 u175 u176 u177 u178 u179 u180 u181 u182 u183 u184 u185 u186 u187 u188 u189 u190 u191 u192 u193 u194 u195 u196 u197 u198 u199 u200 u201 u202 u203 u204 u205 u206 u207 u208 u209 u210 u211 u212 u213 u214 u215 u216 u217 u218 u219 u220 u221 u222 u223 u224 u225 u226 u227 u228 u229 u230 u231 u232 u233 u234 u235 : Value), LRep H bl bo br a b c vt vto vput vm (ws.map wb) ws.length ws.length f g ms wi wx → RI W ws (eds W ps) ps.length f g → KX ⟨#[u0, u1, u2, u3, u4, u5, .pointer (some ⟨br, 0, none⟩), u7, u8, .pointer (some ⟨bl, 0, none⟩), u10, u11, u12, u13, u14, u15, u16, u17, u18, u19, u20, u21, u22, u23, u24, u25, u26, u27, u28, u29, u30, u31, u32, u33, u34, u35, u36, u37, u38, u39, u40, u41, u42, u43, u44, u45, u46, u47, u48, u49, u50, u51, u52, u53, u54, u55, u56, u57, u58, u59, u60, u61, u62, u63, u64, u65, u66, u67, u68, u69, u70, u71, u72, u73, u74, u75, u76, u77, u78, u79, u80, u81, u82, u83, u84, u85, u86, u87, u88, u89, u90, u91, u92, u93, u94, u95, u96, u97, u98, u99, u100, u101, u102, u103, u104, u105, u106, u107, u108, u109, u110, u111, u112, u113, u114, u115, u116, u117, u118, u119, u120, u121, u122, u123, u124, u125, u126, u127, u128, u129, u130, u131, u132, u133, u134, u135, u136, u137, u138, u139, u140, u141, u142, u143, u144, u145, u146, u147, u148, u149, u150, u151, u152, u153, u154, u155, u156, u157, u158, u159, u160, u161, u162, u163, u164, u165, u166, u167, u168, u169, u170, u171, u172, u173, u174, u175, u176, u177, u178, u179, u180, u181, u182, u183, u184, u185, u186, u187, u188, u189, u190, u191, u192, u193, u194, u195, u196, u197, u198, u199, u200, u201, u202, u203, u204, u205, u206, u207, u208, u209, u210, u211, u212, u213, u214, u215, u216, u217, u218, u219, u220, u221, u222, u223, u224, u225, u226, u227, u228, u229, u230, u231, u232, u233, u234, u235], []⟩ wx
theorem read_t28 {K : Type} [Cox.OR K] {W : Cox.Tri K} {Q : Ending → World → Prop} {H bl bo br : Nat} {a b c : Int} {vt vto vput vm : Value} {ws : List (List (Fin 3))} {ps : List PairD} {f g : Nat → Nat → Int} {w0 wi wz : World} {e : Int} {pp : Option Addr} {cp : Nat}
 (HRW : Hid (RW W a b c)) (HE : Hid (RdEnd W a b c br ws (glu (eds W ps)) e w0 Q)) (hw : Below w0.heap.size w0 wi) (hbr : w0.heap.size ≤ br) (hwl : ws.length ≤ 200) (hnd : ws.Nodup) (hlp : ps.length ≤ 600) (hps : PairsAt w0 pp ps) (hpg : ∀ q, q ∈ ps → cpair q = 0) (hr : LRep H bl bo br a b c vt vto vput vm (ws.map wb) ws.length ws.length f g [] wi wz) (hri : RI W ws (eds W ps) 0 f g)
 (he0 : PairSeq W ws [] (eds W ps) → e = 0) (he8 : ¬ PairSeq W ws [] (eds W ps) → e = 8) {u0 u1 u4 u5 u7 u8 u10 u11 u12 u13 u14 u15 u16 u17 u18 u19 u20 u21 u22 u23 u24 u25 u26 u27 u28 u29 u30 u31 u32 u33 u34 u35 u36 u37 u38 u39 u40 u41 u42 u43 u44 u45 u46 u47 u48 u49 u50 u51 u52 u53 u54 u55 u56 u57 u58 u59 u60 u61 u62 u63 u64 u65 u66 u67 u68 u69 u70 u71 u72 u73 u74 u75 u76 u77 u78 u79 u80 u81 u82 u83 u84 u85 u86 u87 u88 u89 u90 u91 u92 u93 u94 u95 u96 u97 u98 u99 u100 u101 u102 u103 u104 u105 u106 u107 u108 u109 u110 u111 u112 u113 u114 u115 u116 u117 u118 u119 u120 u121 u122 u123 u124 u125 u126 u127 u128 u129 u130 u131 u132 u133 u134 u135 u136 u137 u138 u139 u140 u141 u142 u143 u144 u145 u146 u147 u148 u149 u150 u151 u152 u153 u154 u155 u156 u157 u158 u159 u160 u161 u162 u163 u164 u165 u166 u167 u168 u169 u170 u171 u172 u173 u174 u175 u176 u177 u178 u179 u180 u181 u182 u183 u184 u185 u186 u187 u188 u189 u190 u191 u192 u193 u194 u195 u196 u197 u198 u199 u200 u201 u202 u203 u204 u205 u206 u207 u208 u209 u210 u211 u212 u213 u214 u215 u216 u217 u218 u219 u220 u221 u222 u223 u224 u225 u226 u227 u228 u229 u230 u231 u232 u233 u234 u235 : Value} :
 Code.wp Try.prog read28 (bodyPost Try.prog Try.f17 Q) ⟨#[u0, u1, .slice pp ps.length cp, .pointer (some ⟨bo, 0, none⟩), u4, u5, .pointer (some ⟨br, 0, none⟩), u7, u8, .pointer (some ⟨bl, 0, none⟩), u10, u11, u12, u13, u14, u15, u16, u17, u18, u19, u20, u21, u22, u23, u24, u25, u26, u27, u28, u29, u30, u31, u32, u33, u34, u35, u36, u37, u38, u39, u40, u41, u42, u43, u44, u45, u46, u47, u48, u49, u50, u51, u52, u53, u54, u55, u56, u57, u58, u59, u60, u61, u62, u63, u64, u65, u66, u67, u68, u69, u70, u71, u72, u73, u74, u75, u76, u77, u78, u79, u80, u81, u82, u83, u84, u85, u86, u87, u88, u89, u90, u91, u92, u93, u94, u95, u96, u97, u98, u99, u100, u101, u102, u103, u104, u105, u106, u107, u108, u109, u110, u111, u112, u113, u114, u115, u116, u117, u118, u119, u120, u121, u122, u123, u124, u125, u126, u127, u128, u129, u130, u131, u132, u133, u134, u135, u136, u137, u138, u139, u140, u141, u142, u143, u144, u145, u146, u147, u148, u149, u150, u151, u152, u153, u154, u155, u156, u157, u158, u159, u160, u161, u162, u163, u164, u165, u166, u167, u168, u169, u170, u171, u172, u173, u174, u175, u176, u177, u178, u179, u180, u181, u182, u183, u184, u185, u186, u187, u188, u189, u190, u191, u192, u193, u194, u195, u196, u197, u198, u199, u200, u201, u202, u203, u204, u205, u206, u207, u208, u209, u210, u211, u212, u213, u214, u215, u216, u217, u218, u219, u220, u221, u222, u223, u224, u225, u226, u227, u228, u229, u230, u231, u232, u233, u234, u235], []⟩ wz := by
 have HR := Lib.hid hr
 have HW := Hi (And.intro hw hbr)
 have HPS := Lib.hid hps
 have HPG := Lib.hid hpg
 have HRI := Lib.hid hri
 have HEQ := Hi (And.intro he0 he8)
 have HND := Lib.hid hnd
 have hel : (eds W ps).length = ps.length := by unfold eds; rw [List.length_map]
 have HEL := Lib.hid hel
 clear hr hw hbr hps hpg hri he0 he8 hnd hel
 conv => arg 2; whnf
 refine wp_seq_k (fun KX hKX => ?_)
 have HK42 : RdNext W H bl bo br a b c vt vto vput ws ps wi KX := by
  intro f g ms vm wx u0 u1 u2 u3 u4 u5 u7 u8 u10 u11 u12 u13 u14 u15 u16 u17 u18 u19 u20 u21 u22 u23 u24 u25 u26 u27 u28 u29 u30 u31 u32 u33 u34 u35 u36 u37 u38 u39 u40 u41 u42 u43 u44 u45 u46 u47 u48 u49 u50 u51 u52 u53 u54 u55 u56 u57 u58 u59 u60 u61 u62 u63 u64 u65 u66 u67 u68 u69 u70 u71 u72 u73 u74 u75 u76 u77 u78 u79 u80 u81 u82 u83 u84 u85 u86 u87 u88 u89 u90 u91 u92 u93 u94 u95 u96 u97 u98 u99 u100 u101 u102 u103 u104 u105 u106 u107 u108 u109 u110 u111 u112 u113 u114 u115 u116 u117 u118 u119 u120 u121 u122 u123 u124 u125 u126 u127 u128 u129 u130 u131 u132 u133 u134 u135 u136 u137 u138 u139 u140 u141 u142 u143 u144 u145 u146 u147 u148 u149 u150 u151 u152 u153 u154 u155 u156 u157 u158 u159 u160 u161 u162 u163 u164 u165 u166 u167 u168 u169 u170 u171 u172 u173 u174 u175 u176 u177 u178 u179 u180 u181 u182 u183 u184 u185 u186 u187 u188 u189 u190 u191 u192 u193 u194 u195 u196 u197 u198 u199 u200 u201 u202 u203 u204 u205 u206 u207 u208 u209 u210 u211 u212 u213 u214 u215 u216 u217 u218 u219 u220 u221 u222 u223 u224 u225 u226 u227 u228 u229 u230 u231 u232 u233 u234 u235 h1 h2
  rw [← HEL.out] at h2
  exact hKX _ _ (read_t42 HE HW.out.1 HW.out.2 hwl h1 h2 HEQ.out.1 HEQ.out.2)
 clear hKX
 go_wp2_with fail
 go_loopw [105] (fun t wr => ∃ (k : Nat) (f g : Nat → Nat → Int) (ms : List ByteArray) (vm : Value), k ≤ ps.length ∧ t = .int .i64 (k : Nat) ∧ Hid (LRep H bl bo br a b c vt vto vput vm (ws.map wb) ws.length ws.length f g ms wi wr ∧ RI W ws (eds W ps) k f g ∧ ms.length = k)) (fun t _ => ps.length - (intOf t).toNat)
 case atStart => exact ⟨0, f, g, [], vm, by omega, rfl, Lib.hid ⟨HR.out, HRI.out, rfl⟩⟩
 case round =>
  obtain ⟨k, f, g, ms, vm, hk, rfl, HK⟩ := hrel
  by_cases hlt : k < ps.length
  · obtain ⟨b0, o0, hpp, hrow⟩ := (HPS.out.below (HW.out.1.trans (HK.out.1.bel.mono HW.out.1.size))) (by intro h; rw [h] at hlt; simp at hlt)
    obtain ⟨q0, q1, q2, q3⟩ := hrow k hlt
    have k1 : (k : Int) < (ps.length : Int) := by omega
    have k2 : (0 : Int) ≤ (k : Int) := by omega
    have HLT := Lib.hid hlt
    have HGD := Hi (cpair_good (HPG.out _ (List.getElem_mem hlt)))
    have HES : Hid ((eds W ps)[k]? = some (ned W ps[k].1, ned W ps[k].2)) := Hi (by unfold eds; rw [List.getElem?_map, List.getElem?_eq_getElem hlt]; rfl)
    clear hrow
    generalize ps[k] = pk at *
    subst hpp
    go_upto_region 31 with fail
    have hwa := (Below.refl wr.heap.size wr).alloc (Nat.le_refl _) (.cells #[.string pk.1.tile, .int .i64 pk.1.mir, .string pk.2.tile, .int .i64 pk.2.mir] 41)
    have hca := str_new wr #[.string pk.1.tile, .int .i64 pk.1.mir, .string pk.2.tile, .int .i64 pk.2.mir] 41 _ rfl
    have hsa : (wr.alloc (.cells #[.string pk.1.tile, .int .i64 pk.1.mir, .string pk.2.tile, .int .i64 pk.2.mir] 41)).heap.size = wr.heap.size + 1 := by simp
    generalize wr.alloc (.cells #[.string pk.1.tile, .int .i64 pk.1.mir, .string pk.2.tile, .int .i64 pk.2.mir] 41) = wa at *
    have HA := Hi (And.intro (HK.out.1.below hwa) (And.intro hca hsa))
    clear hwa hca hsa q0 q1 q2 q3
    have HB18 := Hi (HK.out.1.fresh (Nat.le_refl _))
    have HBX := Hi (show H ≤ wr.heap.size from HK.out.1.big.2.2.2.1)
    generalize wr.heap.size = bx at *
    have p0 : wa.cell? ⟨bx, 0, none⟩ = some (.string pk.1.tile) := by rw [cell_of HA.out.2.1]; rfl
    have p1 : wa.cell? ⟨bx, 1, none⟩ = some (.int .i64 pk.1.mir) := by rw [cell_of HA.out.2.1]; rfl
    have p2 : wa.cell? ⟨bx, 2, none⟩ = some (.string pk.2.tile) := by rw [cell_of HA.out.2.1]; rfl
    have p3 : wa.cell? ⟨bx, 3, none⟩ = some (.int .i64 pk.2.mir) := by rw [cell_of HA.out.2.1]; rfl
    obtain ⟨pt, ct, hvt, hst⟩ := HA.out.1.strs
    obtain ⟨l3, l4, l5, l6, o0', o1', o2'⟩ := HA.out.1.cells
    rw [hvt] at l3
    have HVT := Hi (And.intro hvt hst)
    clear hvt hst l4 l5 l6
    obtain ⟨e0, he0⟩ : ∃ e0, ned W pk.1 = e0 := ⟨_, rfl⟩
    obtain ⟨e1, he1⟩ : ∃ e1, ned W pk.2 = e1 := ⟨_, rfl⟩
    have HED := Hi (And.intro he0 he1)
    rw [he0, he1] at HES
    have RE : Hid (∀ (w1 : World) (d : EdgeD) (hcw : cw d.tile = 0) (hm : isMir d.mir), Below wa.heap.size wa w1 → Calls Try.prog 41 #[.agg #[.int .i64 a, .int .i64 b, .int .i64 c], .slice pt ws.length ct, .agg #[.string d.tile, .int .i64 d.mir]] w1 fun r w' => Below w1.heap.size w1 w' ∧
     ((Outer W ws (ned W d) ∧ r = .returned (.tuple #[.int .i64 (uidx ws (ned W d).1 : Nat), .bool true])) ∨ (¬ Outer W ws (ned W d) ∧ ∃ z : Int, r = .returned (.tuple #[.int .i64 z, .bool false])))) := Hi (fun w1 d hcw hm hb1 => by
     have := redge_any HRW.out ws (by omega) w1 pt ct (HVT.out.2.below hb1) d hcw hm
     unfold oval at this
     refine this.mono ?_
     rintro r w' ⟨h1, h2⟩
     refine ⟨h1, ?_⟩
     rcases h2 with ⟨h2, rfl⟩ | ⟨h2, rfl⟩
     · by_cases hn : Nb W (ned W d).1 (ned W d).2 ∉ ws
       · exact .inl ⟨⟨h2, hn⟩, by rw [decide_eq_true hn]⟩
       · exact .inr ⟨fun h => hn h.2, _, by rw [decide_eq_false hn]⟩
     · exact .inr ⟨fun h => h2 h.1, _, rfl⟩)
    have g0 := cedge_good HGD.out.1
    have g1 := cedge_good HGD.out.2
    have RE0 := Hi (RE.out wa pk.1 g0.1 g0.2 (Below.refl _ _))
    rw [he0] at RE0
    clear he0 he1
    by_cases hO0 : Outer W ws e0
    case neg =>
     have RE1 : Hid (∀ w1, Below wa.heap.size wa w1 → Calls Try.prog 41 #[.agg #[.int .i64 a, .int .i64 b, .int .i64 c], .slice pt ws.length ct, .agg #[.string pk.2.tile, .int .i64 pk.2.mir]] w1 fun r w' => Below w1.heap.size w1 w' ∧ ∃ (z : Int) (bb : Bool), r = .returned (.tuple #[.int .i64 z, .bool bb])) := Hi (fun w1 hb1 => (RE.out w1 pk.2 g1.1 g1.2 hb1).mono (by
      rintro r w' ⟨h1, h2⟩
      refine ⟨h1, ?_⟩
      rcases h2 with ⟨_, rfl⟩ | ⟨_, z, rfl⟩
      · exact ⟨_, _, rfl⟩
      · exact ⟨_, _, rfl⟩))
     have HN : Hid (e = 8) := Hi (HEQ.out.2 (HK.out.2.1.no HES.out (fun h => hO0 h.1)))
     have RE2 : Hid (Calls Try.prog 41 #[.agg #[.int .i64 a, .int .i64 b, .int .i64 c], .slice pt ws.length ct, .agg #[.string pk.1.tile, .int .i64 pk.1.mir]] wa fun r w' => Below wa.heap.size wa w' ∧ ∃ z : Int, r = .returned (.tuple #[.int .i64 z, .bool false])) := Hi (RE0.out.mono (by
      rintro r w' ⟨h1, h2⟩
      rcases h2 with ⟨h2, _⟩ | ⟨_, z, rfl⟩
      · exact (hO0 h2).elim
      · exact ⟨h1, z, rfl⟩))
     clear hO0 RE RE0 g0 g1
     go_upto_region 34 with (first
      | (go_at_call 41; with_reducible refine RE2.out.mono ?_; rintro r w5 ⟨hb5, z, rfl⟩; have HB5 := Lib.hid hb5; have m0 := cell_stays hb5 p0; have m1 := cell_stays hb5 p1; have m2 := cell_stays hb5 p2; have m3 := cell_stays hb5 p3; have m4 := cell_stays hb5 l3; have m5 := cell_stays hb5 o0'; have m6 := cell_stays hb5 o1'; have m7 := cell_stays hb5 o2'; clear hb5)
      | (go_at_call 41; refine (RE1.out _ HB5.out).mono ?_; rintro r w6 ⟨hb6, z2, bb2, rfl⟩; have HB6 := Hi (HB5.out.trans (hb6.mono HB5.out.size)); have s1 := cell_stays hb6 m1; clear hb6))
     have HL6 := Hi (HA.out.1.below HB6.out)
     obtain ⟨r0, r1, r2, r3, r4, r5, r6, t0, t1, t2, t3, t4, t5, t6⟩ := res_facts HL6.out.res
     go_wp2_with fail
     refine read_door (e := 8) rfl rfl (set7_at HL6.out.res (.int .i64 0) (.int .i64 0) (.int .i64 0) (.slice none 0 0) (.slice none 0 0) (.slice none 0 0) (.slice none 0 0)) ?_
     have := HE.out.no (by rw [HN.out]; decide) _ (set7_below (HW.out.1.trans (HL6.out.bel.mono HW.out.1.size)) HW.out.2 (.int .i64 0) (.int .i64 0) (.int .i64 0) (.slice none 0 0) (.slice none 0 0) (.slice none 0 0) (.slice none 0 0))
     rw [HN.out] at this
     exact this
    case pos =>
     have RE2 : Hid (Calls Try.prog 41 #[.agg #[.int .i64 a, .int .i64 b, .int .i64 c], .slice pt ws.length ct, .agg #[.string pk.1.tile, .int .i64 pk.1.mir]] wa fun r w' => Below wa.heap.size wa w' ∧ r = .returned (.tuple #[.int .i64 (uidx ws e0.1 : Nat), .bool true])) := Hi (RE0.out.mono (by
      rintro r w' ⟨h1, h2⟩
      rcases h2 with ⟨_, h2⟩ | ⟨h2, _⟩
      · exact ⟨h1, h2⟩
      · exact (h2 hO0).elim))
     have HO0 := Lib.hid hO0
     have HU0 := Hi (uidx_mem hO0.1)
     clear hO0 RE0
     by_cases hO1 : Outer W ws e1
     case neg =>
      have HN : Hid (e = 8) := Hi (HEQ.out.2 (HK.out.2.1.no HES.out (fun h => hO1 h.2.1)))
      have RE1 : Hid (∀ w1, Below wa.heap.size wa w1 → Calls Try.prog 41 #[.agg #[.int .i64 a, .int .i64 b, .int .i64 c], .slice pt ws.length ct, .agg #[.string pk.2.tile, .int .i64 pk.2.mir]] w1 fun r w' => Below w1.heap.size w1 w' ∧ ∃ z : Int, r = .returned (.tuple #[.int .i64 z, .bool false])) := Hi (fun w1 hb1 => (RE.out w1 pk.2 g1.1 g1.2 hb1).mono (by
       rintro r w' ⟨h1, h2⟩
       rw [HED.out.2] at h2
       rcases h2 with ⟨h2, _⟩ | ⟨_, z, rfl⟩
       · exact (hO1 h2).elim
       · exact ⟨h1, z, rfl⟩))
      clear hO1 RE g0 g1
      go_upto_region 34 with (first
       | (go_at_call 41; with_reducible refine RE2.out.mono ?_; rintro r w5 ⟨hb5, rfl⟩; have HB5 := Lib.hid hb5; have m0 := cell_stays hb5 p0; have m1 := cell_stays hb5 p1; have m2 := cell_stays hb5 p2; have m3 := cell_stays hb5 p3; have m4 := cell_stays hb5 l3; have m5 := cell_stays hb5 o0'; have m6 := cell_stays hb5 o1'; have m7 := cell_stays hb5 o2'; clear hb5)
       | (go_at_call 41; refine (RE1.out _ HB5.out).mono ?_; rintro r w6 ⟨hb6, z2, rfl⟩; have HB6 := Hi (HB5.out.trans (hb6.mono HB5.out.size)); have s1 := cell_stays hb6 m1; clear hb6))
      have HL6 := Hi (HA.out.1.below HB6.out)
      obtain ⟨r0, r1, r2, r3, r4, r5, r6, t0, t1, t2, t3, t4, t5, t6⟩ := res_facts HL6.out.res
      go_wp2_with fail
      refine read_door (e := 8) rfl rfl (set7_at HL6.out.res (.int .i64 0) (.int .i64 0) (.int .i64 0) (.slice none 0 0) (.slice none 0 0) (.slice none 0 0) (.slice none 0 0)) ?_
      have := HE.out.no (by rw [HN.out]; decide) _ (set7_below (HW.out.1.trans (HL6.out.bel.mono HW.out.1.size)) HW.out.2 (.int .i64 0) (.int .i64 0) (.int .i64 0) (.slice none 0 0) (.slice none 0 0) (.slice none 0 0) (.slice none 0 0))
      rw [HN.out] at this
      exact this
     case pos =>
      have RE1 : Hid (∀ w1, Below wa.heap.size wa w1 → Calls Try.prog 41 #[.agg #[.int .i64 a, .int .i64 b, .int .i64 c], .slice pt ws.length ct, .agg #[.string pk.2.tile, .int .i64 pk.2.mir]] w1 fun r w' => Below w1.heap.size w1 w' ∧ r = .returned (.tuple #[.int .i64 (uidx ws e1.1 : Nat), .bool true])) := Hi (fun w1 hb1 => (RE.out w1 pk.2 g1.1 g1.2 hb1).mono (by
       rintro r w' ⟨h1, h2⟩
       rw [HED.out.2] at h2
       rcases h2 with ⟨_, h2⟩ | ⟨h2, _⟩
       · exact ⟨h1, h2⟩
       · exact (h2 hO1).elim))
      have HO1 := Lib.hid hO1
      have HU1 := Hi (uidx_mem hO1.1)
      obtain ⟨l0, hl0, hz0⟩ : ∃ l, pk.1.tile = wb l ∧ l.length ≤ 60 := ⟨_, (cw_unw g0.1).1, (cw_unw g0.1).2⟩
      obtain ⟨l1, hl1, hz1⟩ : ∃ l, pk.2.tile = wb l ∧ l.length ≤ 60 := ⟨_, (cw_unw g1.1).1, (cw_unw g1.1).2⟩
      obtain ⟨i, hi⟩ : ∃ i, e0.2 = i := ⟨_, rfl⟩
      obtain ⟨j, hj⟩ : ∃ j, e1.2 = j := ⟨_, rfl⟩
      have hmi : pk.1.mir = (i.val : Int) := by rw [mf_of g0.2, ← hi, ← HED.out.1]; rfl
      have hmj : pk.2.mir = (j.val : Int) := by rw [mf_of g1.2, ← hj, ← HED.out.2]; rfl
      have HIJ := Hi (And.intro hi hj)
      have HZ := Hi (And.intro hz0 hz1)
      rw [hl0, hmi] at RE2
      rw [hl1, hmj] at RE1
      rw [hl0] at p0
      rw [hmi] at p1
      rw [hl1] at p2
      rw [hmj] at p3
      clear hO1 RE g0 g1 hl0 hl1 hz0 hz1 hi hj hmi hmj
      go_upto_region 34 with (first
       | (go_at_call 41; with_reducible refine RE2.out.mono ?_; rintro r w5 ⟨hb5, rfl⟩; have HB5 := Lib.hid hb5; have m0 := cell_stays hb5 p0; have m1 := cell_stays hb5 p1; have m2 := cell_stays hb5 p2; have m3 := cell_stays hb5 p3; have m4 := cell_stays hb5 l3; have m5 := cell_stays hb5 o0'; have m6 := cell_stays hb5 o1'; have m7 := cell_stays hb5 o2'; clear hb5)
       | (go_at_call 41; refine (RE1.out _ HB5.out).mono ?_; rintro r w6 ⟨hb6, rfl⟩; have HB6 := Hi (HB5.out.trans (hb6.mono HB5.out.size)); have s0 := cell_stays hb6 m0; have s1 := cell_stays hb6 m1; have s2 := cell_stays hb6 m2; have s3 := cell_stays hb6 m3; clear hb6))
      clear p0 p1 p2 p3 m0 m1 m2 m3 m4 m5 m6 m7 l3 o0' o1' o2' RE1 RE2
      have HL6 := Hi (HA.out.1.below HB6.out)
      obtain ⟨v0, hv0⟩ : ∃ v0, uidx ws e0.1 = v0 := ⟨_, rfl⟩
      obtain ⟨v1, hv1⟩ : ∃ v1, uidx ws e1.1 = v1 := ⟨_, rfl⟩
      have HVU := Hi (And.intro hv0 hv1)
      rw [hv0, hv1]
      have HV : Hid (v0 < ws.length ∧ v1 < ws.length ∧ True) := Lib.hid ⟨hv0 ▸ HU0.out.2.1, hv1 ▸ HU1.out.2.1, trivial⟩
      have HPX := Hi (And.intro s0 (And.intro s1 s2))
      clear hv0 hv1
      have i1 : (i.val : Int) < 3 := by have := i.isLt; omega
      have i2 : (0 : Int) ≤ (i.val : Int) := by omega
      have b0 : (v0 : Int) < (ws.length : Int) := by have := HV.out.1; omega
      have b1 : (0 : Int) ≤ (v0 : Int) := by omega
      have b2 : (v1 : Int) < (ws.length : Int) := by have := HV.out.2.1; omega
      have b3 : (0 : Int) ≤ (v1 : Int) := by omega
      have hfe := feq i j
      by_cases hij : i = j
      case neg =>
       rw [decide_eq_false hij] at hfe
       have hne : ¬ ((i.val : Int) = (j.val : Int)) := by simpa using hfe
       have HN : Hid (e = 8) := Hi (HEQ.out.2 (HK.out.2.1.no HES.out (fun h => hij (by have := h.2.2.2.2; rw [HIJ.out.1, HIJ.out.2] at this; exact this))))
       obtain ⟨r0, r1, r2, r3, r4, r5, r6, t0, t1, t2, t3, t4, t5, t6⟩ := res_facts HL6.out.res
       go_wp2_with fail
       refine read_door (e := 8) rfl rfl (set7_at HL6.out.res (.int .i64 0) (.int .i64 0) (.int .i64 0) (.slice none 0 0) (.slice none 0 0) (.slice none 0 0) (.slice none 0 0)) ?_
       have := HE.out.no (by rw [HN.out]; decide) _ (set7_below (HW.out.1.trans (HL6.out.bel.mono HW.out.1.size)) HW.out.2 (.int .i64 0) (.int .i64 0) (.int .i64 0) (.slice none 0 0) (.slice none 0 0) (.slice none 0 0) (.slice none 0 0))
       rw [HN.out] at this
       exact this
      case pos =>
       rw [decide_eq_true hij] at hfe
       subst hij
       obtain ⟨qp, cq, hvp, c0, f0⟩ := HL6.out.putCell (t := v0) (i := i.val) HV.out.1 i.isLt
       obtain ⟨qp', cq', hvp', c1, f1⟩ := HL6.out.putCell (t := v1) (i := i.val) HV.out.2.1 i.isLt
       have hqq : qp = qp' := by rw [hvp] at hvp'; simp at hvp'; exact hvp'.1
       rw [← hqq] at c1
       have x5 : w6.cell? ⟨bl, 5, none⟩ = some (.slice (some ⟨qp, 0, none⟩) ws.length cq) := by rw [HL6.out.cells.2.2.1, hvp]
       have HG0 : Hid (g v0 i.val ≠ 0 ↔ e0 ∈ used ((eds W ps).take k)) := Hi (by
        have h1 := HK.out.2.1.put v0 HV.out.1 i
        have h2 : ws[v0]'HV.out.1 = e0.1 := by have := HU0.out.2.2; simp only [HVU.out.1] at this; exact this
        rw [h2, ← HIJ.out.1] at h1
        rw [← HIJ.out.1]
        exact h1)
       have HG1 : Hid (g v1 i.val ≠ 0 ↔ e1 ∈ used ((eds W ps).take k)) := Hi (by
        have h1 := HK.out.2.1.put v1 HV.out.2.1 i
        have h2 : ws[v1]'HV.out.2.1 = e1.1 := by have := HU1.out.2.2; simp only [HVU.out.2] at this; exact this
        rw [h2, ← HIJ.out.2] at h1
        rw [← HIJ.out.2]
        exact h1)
       clear hvp hvp' hqq f0 f1
       by_cases hg0 : g v0 i.val = 0
       case neg =>
        have z0 : (g v0 i.val == 0) = false := by simpa using hg0
        have HN : Hid (e = 8) := Hi (HEQ.out.2 (HK.out.2.1.no HES.out (fun h => h.2.2.1 (HG0.out.1 hg0))))
        obtain ⟨r0, r1, r2, r3, r4, r5, r6, t0, t1, t2, t3, t4, t5, t6⟩ := res_facts HL6.out.res
        go_wp2_with fail
        refine read_door (e := 8) rfl rfl (set7_at HL6.out.res (.int .i64 0) (.int .i64 0) (.int .i64 0) (.slice none 0 0) (.slice none 0 0) (.slice none 0 0) (.slice none 0 0)) ?_
        have := HE.out.no (by rw [HN.out]; decide) _ (set7_below (HW.out.1.trans (HL6.out.bel.mono HW.out.1.size)) HW.out.2 (.int .i64 0) (.int .i64 0) (.int .i64 0) (.slice none 0 0) (.slice none 0 0) (.slice none 0 0) (.slice none 0 0))
        rw [HN.out] at this
        exact this
       case pos =>
        by_cases hg1 : g v1 i.val = 0
        case neg =>
         have z1 : (g v1 i.val == 0) = false := by simpa using hg1
         have HN : Hid (e = 8) := Hi (HEQ.out.2 (HK.out.2.1.no HES.out (fun h => h.2.2.2.1 (HG1.out.1 hg1))))
         obtain ⟨r0, r1, r2, r3, r4, r5, r6, t0, t1, t2, t3, t4, t5, t6⟩ := res_facts HL6.out.res
         go_wp2_with fail
         refine read_door (e := 8) rfl rfl (set7_at HL6.out.res (.int .i64 0) (.int .i64 0) (.int .i64 0) (.slice none 0 0) (.slice none 0 0) (.slice none 0 0) (.slice none 0 0)) ?_
         have := HE.out.no (by rw [HN.out]; decide) _ (set7_below (HW.out.1.trans (HL6.out.bel.mono HW.out.1.size)) HW.out.2 (.int .i64 0) (.int .i64 0) (.int .i64 0) (.slice none 0 0) (.slice none 0 0) (.slice none 0 0) (.slice none 0 0))
         rw [HN.out] at this
         exact this
        case pos =>
         have HUS : Hid (e0 ∉ used ((eds W ps).take k) ∧ e1 ∉ used ((eds W ps).take k)) := Lib.hid ⟨fun h => HG0.out.2 h hg0, fun h => HG1.out.2 h hg1⟩
         have w1_ : IntKind.i64.wrap (-(k : Int)) = -(k : Int) := by rw [IntKind.wrap_i64]; omega
         have w2_ : IntKind.i64.wrap (-(k : Int) - 1) = -(k : Int) - 1 := by rw [IntKind.wrap_i64]; omega
         have w3_ : IntKind.i64.wrap ((k : Int) + 1) = (k : Int) + 1 := by rw [IntKind.wrap_i64]; omega
         clear HG0 HG1
         go_upto_region 36 with fail
         clear hg0 hg1 c0 c1 x5 s0 s1 s2 s3 hfe
         obtain ⟨qt36, cq36, hv36, c36, f36⟩ := HL6.out.toCell (t := v0) (i := i.val) HV.out.1 i.isLt
         have x36 : w6.cell? ⟨bl, 4, none⟩ = some (.slice (some ⟨qt36, 0, none⟩) ws.length cq36) := by rw [HL6.out.cells.2.1, hv36]
         have HS36 := Hi (HL6.out.setTo (t := v0) (i := i.val) HV.out.1 i.isLt (v1 : Int) hv36)
         have HN36 : Hid (bx ≠ qt36) := Hi (fun e => HB18.out.2.1 (by rw [hv36, e]; rfl))
         clear hv36
         go_upto_region 37 with fail
         have HP36 : Hid ((w6.setCell ⟨qt36, v0 * 3 + i.val, none⟩ (.int .i64 (v1 : Int))).cell? ⟨bx, 0, none⟩ = some (.string (wb l0)) ∧ (w6.setCell ⟨qt36, v0 * 3 + i.val, none⟩ (.int .i64 (v1 : Int))).cell? ⟨bx, 1, none⟩ = some (.int .i64 (i.val : Int)) ∧ (w6.setCell ⟨qt36, v0 * 3 + i.val, none⟩ (.int .i64 (v1 : Int))).cell? ⟨bx, 2, none⟩ = some (.string (wb l1))) := Hi (by
          have h1 := set_keep (w := w6) (o := v0 * 3 + i.val) (v := .int .i64 (v1 : Int)) HN36.out
          exact ⟨(World.cell?_of_block (w := w6) h1).trans HPX.out.1, (World.cell?_of_block (w := w6) h1).trans HPX.out.2.1, (World.cell?_of_block (w := w6) h1).trans HPX.out.2.2⟩)
         generalize w6.setCell ⟨qt36, v0 * 3 + i.val, none⟩ (.int .i64 (v1 : Int)) = wz1 at *
         clear x36 c36 f36
         obtain ⟨qp37, cq37, hv37, c37, f37⟩ := HS36.out.putCell (t := v0) (i := i.val) HV.out.1 i.isLt
         have x37 : wz1.cell? ⟨bl, 5, none⟩ = some (.slice (some ⟨qp37, 0, none⟩) ws.length cq37) := by rw [HS36.out.cells.2.2.1, hv37]
         have HS37 := Hi (HS36.out.setPut (t := v0) (i := i.val) HV.out.1 i.isLt (-(k : Int) - 1) hv37)
         have HN37 : Hid (bx ≠ qp37) := Hi (fun e => HB18.out.2.2.1 (by rw [hv37, e]; rfl))
         clear hv37
         go_upto_region 38 with fail
         have HP37 : Hid ((wz1.setCell ⟨qp37, v0 * 3 + i.val, none⟩ (.int .i64 (-(k : Int) - 1))).cell? ⟨bx, 0, none⟩ = some (.string (wb l0)) ∧ (wz1.setCell ⟨qp37, v0 * 3 + i.val, none⟩ (.int .i64 (-(k : Int) - 1))).cell? ⟨bx, 1, none⟩ = some (.int .i64 (i.val : Int)) ∧ (wz1.setCell ⟨qp37, v0 * 3 + i.val, none⟩ (.int .i64 (-(k : Int) - 1))).cell? ⟨bx, 2, none⟩ = some (.string (wb l1))) := Hi (by
          have h1 := set_keep (w := wz1) (o := v0 * 3 + i.val) (v := .int .i64 (-(k : Int) - 1)) HN37.out
          exact ⟨(World.cell?_of_block (w := wz1) h1).trans HP36.out.1, (World.cell?_of_block (w := wz1) h1).trans HP36.out.2.1, (World.cell?_of_block (w := wz1) h1).trans HP36.out.2.2⟩)
         generalize wz1.setCell ⟨qp37, v0 * 3 + i.val, none⟩ (.int .i64 (-(k : Int) - 1)) = wz2 at *
         clear x37 c37 f37
         obtain ⟨qt38, cq38, hv38, c38, f38⟩ := HS37.out.toCell (t := v1) (i := i.val) HV.out.2.1 i.isLt
         have x38 : wz2.cell? ⟨bl, 4, none⟩ = some (.slice (some ⟨qt38, 0, none⟩) ws.length cq38) := by rw [HS37.out.cells.2.1, hv38]
         have HS38 := Hi (HS37.out.setTo (t := v1) (i := i.val) HV.out.2.1 i.isLt (v0 : Int) hv38)
         have HN38 : Hid (bx ≠ qt38) := Hi (fun e => HB18.out.2.1 (by rw [hv38, e]; rfl))
         clear hv38
         go_upto_region 39 with fail
         have HP38 : Hid ((wz2.setCell ⟨qt38, v1 * 3 + i.val, none⟩ (.int .i64 (v0 : Int))).cell? ⟨bx, 0, none⟩ = some (.string (wb l0)) ∧ (wz2.setCell ⟨qt38, v1 * 3 + i.val, none⟩ (.int .i64 (v0 : Int))).cell? ⟨bx, 1, none⟩ = some (.int .i64 (i.val : Int)) ∧ (wz2.setCell ⟨qt38, v1 * 3 + i.val, none⟩ (.int .i64 (v0 : Int))).cell? ⟨bx, 2, none⟩ = some (.string (wb l1))) := Hi (by
          have h1 := set_keep (w := wz2) (o := v1 * 3 + i.val) (v := .int .i64 (v0 : Int)) HN38.out
          exact ⟨(World.cell?_of_block (w := wz2) h1).trans HP37.out.1, (World.cell?_of_block (w := wz2) h1).trans HP37.out.2.1, (World.cell?_of_block (w := wz2) h1).trans HP37.out.2.2⟩)
         generalize wz2.setCell ⟨qt38, v1 * 3 + i.val, none⟩ (.int .i64 (v0 : Int)) = wz3 at *
         clear x38 c38 f38
         obtain ⟨qp39, cq39, hv39, c39, f39⟩ := HS38.out.putCell (t := v1) (i := i.val) HV.out.2.1 i.isLt
         have x39 : wz3.cell? ⟨bl, 5, none⟩ = some (.slice (some ⟨qp39, 0, none⟩) ws.length cq39) := by rw [HS38.out.cells.2.2.1, hv39]
         have HS39 := Hi (HS38.out.setPut (t := v1) (i := i.val) HV.out.2.1 i.isLt ((k : Int) + 1) hv39)
         have HN39 : Hid (bx ≠ qp39) := Hi (fun e => HB18.out.2.2.1 (by rw [hv39, e]; rfl))
         clear hv39
         go_upto_region 40 with fail
         have HP39 : Hid ((wz3.setCell ⟨qp39, v1 * 3 + i.val, none⟩ (.int .i64 ((k : Int) + 1))).cell? ⟨bx, 0, none⟩ = some (.string (wb l0)) ∧ (wz3.setCell ⟨qp39, v1 * 3 + i.val, none⟩ (.int .i64 ((k : Int) + 1))).cell? ⟨bx, 1, none⟩ = some (.int .i64 (i.val : Int)) ∧ (wz3.setCell ⟨qp39, v1 * 3 + i.val, none⟩ (.int .i64 ((k : Int) + 1))).cell? ⟨bx, 2, none⟩ = some (.string (wb l1))) := Hi (by
          have h1 := set_keep (w := wz3) (o := v1 * 3 + i.val) (v := .int .i64 ((k : Int) + 1)) HN39.out
          exact ⟨(World.cell?_of_block (w := wz3) h1).trans HP38.out.1, (World.cell?_of_block (w := wz3) h1).trans HP38.out.2.1, (World.cell?_of_block (w := wz3) h1).trans HP38.out.2.2⟩)
         generalize wz3.setCell ⟨qp39, v1 * 3 + i.val, none⟩ (.int .i64 ((k : Int) + 1)) = wz4 at *
         clear x39 c39 f39
         have HNRI := Hi (by
          have h1 := HK.out.2.1.step HND.out HES.out HO0.out HO1.out HUS.out.1 HUS.out.2 (HIJ.out.1.trans HIJ.out.2.symm) (x := -(k : Int) - 1) (y := (k : Int) + 1) (by omega) (by omega)
          rw [HVU.out.1, HVU.out.2, HIJ.out.1] at h1
          exact h1 : RI W ws (eds W ps) (k + 1) (upd3 (upd3 f v0 i.val (v1 : Int)) v1 i.val (v0 : Int)) (upd3 (upd3 g v0 i.val (-(k : Int) - 1)) v1 i.val ((k : Int) + 1)))
         obtain ⟨p6, c6, hv6⟩ := owns_form HS39.out.rM
         subst hv6
         have HPB : Hid ((Value.slice p6 ms.length c6).ownBlock ≠ some bx) := Lib.hid HB18.out.2.2.2
         have d6 : wz4.drew.cell? ⟨bl, 6, none⟩ = some (.slice p6 ms.length c6) := HS39.out.cells.2.2.2.1
         have dx0 : wz4.drew.cell? ⟨bx, 0, none⟩ = some (.string (wb l0)) := HP39.out.1
         have dx2 : wz4.drew.cell? ⟨bx, 2, none⟩ = some (.string (wb l1)) := HP39.out.2.2
         have TU := Hi (fun w => turned_any l0 (by have := HZ.out.1; omega) w)
         obtain ⟨i9, hi9, hy0, hy1, hy2⟩ := info_parts info9
         have a1 : ms.length + 1 ≤ maxLen := by have := HK.out.2.2; unfold maxLen; omega
         have a2 : (ms.length + 1) * 16 ≤ 140737488355328 := by have := HK.out.2.2; omega
         have hap1 := wb_append l1 [i]
         obtain ⟨lm, hlm⟩ : ∃ lm, l1 ++ [i] = lm := ⟨_, rfl⟩
         rw [hlm] at hap1
         have hap2 := wb_append lm l0.reverse
         obtain ⟨ln, hln⟩ : ∃ ln, lm ++ l0.reverse = ln := ⟨_, rfl⟩
         rw [hln] at hap2
         have hsz1 : ¬ 9223372036854775807 < (wb l1).size + (wb [i]).size := by have := HZ.out; rw [wb_size, wb_size]; simp; omega
         have hsz2 : ¬ 9223372036854775807 < (wb lm).size + (wb l0.reverse).size := by have := HZ.out; rw [← hlm, wb_size, wb_size]; simp; omega
         have hwr := wrap_u8_fin i
         have w4_ : IntKind.i64.wrap ((k : Int) + 1) = (k : Int) + 1 := w3_
         have HSD := Hi (HS39.out.below ((Below.refl _ _).drew))
         clear w1_ w2_ i1 b0 b1 b2 b3 hlm hln
         refine e_begin (fun w' => w'.cell? ⟨bl, 6, none⟩ = some (.slice p6 ms.length c6) ∧ w'.cell? ⟨bx, 0, none⟩ = some (.string (wb l0)) ∧ w'.cell? ⟨bx, 2, none⟩ = some (.string (wb l1))) 18 (by kernel_rfl) (⟨d6, dx0, dx2⟩) (fun hHeld => ?_)
         generalize wz4.drew = wd at *
         refine ey 0 hHeld ?_
         try simp only [ly]
         refine ey 1 hHeld ?_
         try simp only [ly]
         refine ey 2 hHeld ?_
         try simp only [ly]
         refine ey 3 hHeld ?_
         try simp only [ly]
         refine ey 4 hHeld ?_
         try simp only [ly]
         refine ey 5 hHeld ?_
         try simp only [ly]
         refine ey 6 hHeld ?_
         try simp only [ly]
         refine ey 10 hHeld ?_
         try simp only [ly]
         refine ey 11 hHeld ?_
         try simp only [ly]
         refine ey 12 hHeld ?_
         try simp only [ly]
         refine e_step2 (i := 7) (j := 13) rfl rfl (by kernel_rfl) (fun K' hK => ?_) (fun K' hK => ?_)
         · go_simp
           have hbA := (Below.refl wd.heap.size wd).alloc (Nat.le_refl _) (.cells #[.int .u8 (i.val : Int)] 5)
           have hcA := str_new wd #[.int .u8 (i.val : Int)] 5 _ rfl
           have HLA := Hi (HSD.out.below hbA)
           have hcv := conv_byte i (wd.alloc (.cells #[.int .u8 (i.val : Int)] 5)) ⟨wd.heap.size, 0, none⟩ rfl (by rw [cell_of hcA]; rfl)
           obtain ⟨y0, y1, y2⟩ := hHeld
           have g0 := cell_stays hbA y0
           have g1 := cell_stays hbA y1
           have g2 := cell_stays hbA y2
           clear y0 y1 y2 hbA hcA
           refine hK.out _ _ (fun _ => ⟨g0, g1, g2⟩) (fun hH => ?_)
           have hHeld := hH (by decide)
           clear hK K' hH
           try simp only [ly]
           refine e_step2 (i := 8) (j := 13) rfl rfl (by kernel_rfl) (fun K' hK => ?_) (fun K' hK => ?_)
           · go_simp
             refine hK.out _ _ (fun _ => hHeld) (fun hH => ?_)
             have hHeld := hH (by decide)
             clear hK K' hH
             try simp only [ly]
             refine ey 9 hHeld ?_
             try simp only [ly]
             refine e_step (i := 13) rfl (by kernel_rfl) (fun K' hK => ?_)
             go_simp
             go_at_call 42
             refine (TU.out _).mono ?_
             rintro e w5 ⟨rfl, h5⟩
             subst w5
             refine hK.out _ _ (fun _ => hHeld) (fun hH => ?_)
             have hHeld := hH (by decide)
             clear hK K' hH
             try simp only [ly]
             refine ey 14 hHeld ?_
             try simp only [ly]
             refine e_step (i := 15) rfl (by kernel_rfl) (fun K' hK => ?_)
             go_simp
             have hbB := (Below.refl (wd.alloc (.cells #[.int .u8 (i.val : Int)] 5)).heap.size (wd.alloc (.cells #[.int .u8 (i.val : Int)] 5))).alloc (Nat.le_refl _) (.cells #[.string (wb ln)] 9)
             have HCB := Hi (str_new (wd.alloc (.cells #[.int .u8 (i.val : Int)] 5)) #[.string (wb ln)] 9 (wd.heap.size + 1) (by simp))
             have g3 := cell_stays hbB g0
             have g4 := cell_stays hbB g1
             have g5 := cell_stays hbB g2
             clear hbB
             refine hK.out _ _ (fun _ => ⟨g3, g4, g5⟩) (fun hH => ?_)
             have hHeld := hH (by decide)
             clear hK K' hH
             try simp only [ly]
             refine e_step (i := 16) rfl (by kernel_rfl) (fun K' hK => ?_)
             rw [if_pos (by kernel_rfl)]
             refine wp_append_lies _ (.tmp 197) (.tmp 211) 24 rfl H 9 i9 _ 1 16 Try.underlying24 hi9 hy0 hy1 hy2 rfl (by decide) (.slice p6 ms.length c6) ms.length (ms.map .string) rfl (owns_keep HLA.out.rM (fun q hq => Below.heap_alloc _ _ _ (owns_lt HLA.out.rM hq).1)) _ 1 1 [.string (wb ln)] rfl rfl (World.news_of_block HCB.out) (by intro u hu; simp at hu; subst hu; rfl) (by decide) a1 a2 (by have h1 := HLA.out.big.2.2.2.1; rw [World.size_alloc]; omega) _ rfl ?_
             intro g9 cap9 w9 hown9 hgr9 hat9 hlt9
             have HF := Hi (HLA.out.pushM hown9 hgr9 hat9)
             have hx9 := grown_keep hgr9 (q := bx) (World.block_lt_of_cell? _ _ g1) HPB.out
             have hb9 := grown_keep hgr9 (q := bl) (Array.getElem?_eq_some_iff.1 HLA.out.box).1 (fun e => by have h1 := (owns_lt HLA.out.rM e).2; have h2 := HLA.out.big; omega)
             have z1 : w9.cell? ⟨bl, 6, none⟩ = some (.slice p6 ms.length c6) := by rw [cell_of (hb9.trans HLA.out.box)]; rfl
             have z2 := free_of (hb9.trans HLA.out.box) 6
             have z3 : w9.cell? ⟨bx, 0, none⟩ = some (.string (wb l0)) := (World.cell?_of_block hx9).trans g1
             have z4 : w9.cell? ⟨bx, 2, none⟩ = some (.string (wb l1)) := (World.cell?_of_block hx9).trans g2
             clear hown9 hgr9 hat9 hlt9 hx9 hb9
             refine hK.out _ _ (fun _ => ⟨z1, z3, z4⟩) (fun hH => ?_)
             have hHeld := hH (by decide)
             clear hK K' hH z3 z4
             try simp only [ly]
             refine ey 17 hHeld ?_
             try simp only [ly]
             refine e_step (i := 18) rfl (by kernel_rfl) (fun K' hK => ?_)
             go_simp
             refine hK.out _ _ (fun h => (h rfl).elim) (fun _ => ?_)
             clear hK K'
             try simp only [ly]
             refine e_done (by kernel_rfl) ?_ _
             go_wp2_with fail
             go_roundw
             case rel => exact ⟨k + 1, _, _, ms ++ [wb ln], _, HLT.out, by go_num, Lib.hid ⟨HF.out, HNRI.out, by have := HK.out.2.2; simp; omega⟩⟩
             case measure =>
              have := HLT.out
              simp [intOf]; omega
           · go_simp
             go_at_call 42
             refine (TU.out _).mono ?_
             rintro e w5 ⟨rfl, h5⟩
             subst w5
             refine hK.out _ _ (fun _ => hHeld) (fun hH => ?_)
             have hHeld := hH (by decide)
             clear hK K' hH
             try simp only [ly]
             refine e_step (i := 8) rfl (by kernel_rfl) (fun K' hK => ?_)
             go_simp
             refine hK.out _ _ (fun _ => hHeld) (fun hH => ?_)
             have hHeld := hH (by decide)
             clear hK K' hH
             try simp only [ly]
             refine ey 9 hHeld ?_
             try simp only [ly]
             refine ey 14 hHeld ?_
             try simp only [ly]
             refine e_step (i := 15) rfl (by kernel_rfl) (fun K' hK => ?_)
             go_simp
             have hbB := (Below.refl (wd.alloc (.cells #[.int .u8 (i.val : Int)] 5)).heap.size (wd.alloc (.cells #[.int .u8 (i.val : Int)] 5))).alloc (Nat.le_refl _) (.cells #[.string (wb ln)] 9)
             have HCB := Hi (str_new (wd.alloc (.cells #[.int .u8 (i.val : Int)] 5)) #[.string (wb ln)] 9 (wd.heap.size + 1) (by simp))
             have g3 := cell_stays hbB g0
             have g4 := cell_stays hbB g1
             have g5 := cell_stays hbB g2
             clear hbB
             refine hK.out _ _ (fun _ => ⟨g3, g4, g5⟩) (fun hH => ?_)
             have hHeld := hH (by decide)
             clear hK K' hH
             try simp only [ly]
             refine e_step (i := 16) rfl (by kernel_rfl) (fun K' hK => ?_)
             rw [if_pos (by kernel_rfl)]
             refine wp_append_lies _ (.tmp 197) (.tmp 211) 24 rfl H 9 i9 _ 1 16 Try.underlying24 hi9 hy0 hy1 hy2 rfl (by decide) (.slice p6 ms.length c6) ms.length (ms.map .string) rfl (owns_keep HLA.out.rM (fun q hq => Below.heap_alloc _ _ _ (owns_lt HLA.out.rM hq).1)) _ 1 1 [.string (wb ln)] rfl rfl (World.news_of_block HCB.out) (by intro u hu; simp at hu; subst hu; rfl) (by decide) a1 a2 (by have h1 := HLA.out.big.2.2.2.1; rw [World.size_alloc]; omega) _ rfl ?_
             intro g9 cap9 w9 hown9 hgr9 hat9 hlt9
             have HF := Hi (HLA.out.pushM hown9 hgr9 hat9)
             have hx9 := grown_keep hgr9 (q := bx) (World.block_lt_of_cell? _ _ g1) HPB.out
             have hb9 := grown_keep hgr9 (q := bl) (Array.getElem?_eq_some_iff.1 HLA.out.box).1 (fun e => by have h1 := (owns_lt HLA.out.rM e).2; have h2 := HLA.out.big; omega)
             have z1 : w9.cell? ⟨bl, 6, none⟩ = some (.slice p6 ms.length c6) := by rw [cell_of (hb9.trans HLA.out.box)]; rfl
             have z2 := free_of (hb9.trans HLA.out.box) 6
             have z3 : w9.cell? ⟨bx, 0, none⟩ = some (.string (wb l0)) := (World.cell?_of_block hx9).trans g1
             have z4 : w9.cell? ⟨bx, 2, none⟩ = some (.string (wb l1)) := (World.cell?_of_block hx9).trans g2
             clear hown9 hgr9 hat9 hlt9 hx9 hb9
             refine hK.out _ _ (fun _ => ⟨z1, z3, z4⟩) (fun hH => ?_)
             have hHeld := hH (by decide)
             clear hK K' hH z3 z4
             try simp only [ly]
             refine ey 17 hHeld ?_
             try simp only [ly]
             refine e_step (i := 18) rfl (by kernel_rfl) (fun K' hK => ?_)
             go_simp
             refine hK.out _ _ (fun h => (h rfl).elim) (fun _ => ?_)
             clear hK K'
             try simp only [ly]
             refine e_done (by kernel_rfl) ?_ _
             go_wp2_with fail
             go_roundw
             case rel => exact ⟨k + 1, _, _, ms ++ [wb ln], _, HLT.out, by go_num, Lib.hid ⟨HF.out, HNRI.out, by have := HK.out.2.2; simp; omega⟩⟩
             case measure =>
              have := HLT.out
              simp [intOf]; omega
         · go_simp
           go_at_call 42
           refine (TU.out _).mono ?_
           rintro e w5 ⟨rfl, h5⟩
           subst w5
           refine hK.out _ _ (fun _ => hHeld) (fun hH => ?_)
           have hHeld := hH (by decide)
           clear hK K' hH
           try simp only [ly]
           refine e_step (i := 7) rfl (by kernel_rfl) (fun K' hK => ?_)
           go_simp
           have hbA := (Below.refl wd.heap.size wd).alloc (Nat.le_refl _) (.cells #[.int .u8 (i.val : Int)] 5)
           have hcA := str_new wd #[.int .u8 (i.val : Int)] 5 _ rfl
           have HLA := Hi (HSD.out.below hbA)
           have hcv := conv_byte i (wd.alloc (.cells #[.int .u8 (i.val : Int)] 5)) ⟨wd.heap.size, 0, none⟩ rfl (by rw [cell_of hcA]; rfl)
           obtain ⟨y0, y1, y2⟩ := hHeld
           have g0 := cell_stays hbA y0
           have g1 := cell_stays hbA y1
           have g2 := cell_stays hbA y2
           clear y0 y1 y2 hbA hcA
           refine hK.out _ _ (fun _ => ⟨g0, g1, g2⟩) (fun hH => ?_)
           have hHeld := hH (by decide)
           clear hK K' hH
           try simp only [ly]
           refine e_step (i := 8) rfl (by kernel_rfl) (fun K' hK => ?_)
           go_simp
           refine hK.out _ _ (fun _ => hHeld) (fun hH => ?_)
           have hHeld := hH (by decide)
           clear hK K' hH
           try simp only [ly]
           refine ey 9 hHeld ?_
           try simp only [ly]
           refine ey 14 hHeld ?_
           try simp only [ly]
           refine e_step (i := 15) rfl (by kernel_rfl) (fun K' hK => ?_)
           go_simp
           have hbB := (Below.refl (wd.alloc (.cells #[.int .u8 (i.val : Int)] 5)).heap.size (wd.alloc (.cells #[.int .u8 (i.val : Int)] 5))).alloc (Nat.le_refl _) (.cells #[.string (wb ln)] 9)
           have HCB := Hi (str_new (wd.alloc (.cells #[.int .u8 (i.val : Int)] 5)) #[.string (wb ln)] 9 (wd.heap.size + 1) (by simp))
           have g3 := cell_stays hbB g0
           have g4 := cell_stays hbB g1
           have g5 := cell_stays hbB g2
           clear hbB
           refine hK.out _ _ (fun _ => ⟨g3, g4, g5⟩) (fun hH => ?_)
           have hHeld := hH (by decide)
           clear hK K' hH
           try simp only [ly]
           refine e_step (i := 16) rfl (by kernel_rfl) (fun K' hK => ?_)
           rw [if_pos (by kernel_rfl)]
           refine wp_append_lies _ (.tmp 197) (.tmp 211) 24 rfl H 9 i9 _ 1 16 Try.underlying24 hi9 hy0 hy1 hy2 rfl (by decide) (.slice p6 ms.length c6) ms.length (ms.map .string) rfl (owns_keep HLA.out.rM (fun q hq => Below.heap_alloc _ _ _ (owns_lt HLA.out.rM hq).1)) _ 1 1 [.string (wb ln)] rfl rfl (World.news_of_block HCB.out) (by intro u hu; simp at hu; subst hu; rfl) (by decide) a1 a2 (by have h1 := HLA.out.big.2.2.2.1; rw [World.size_alloc]; omega) _ rfl ?_
           intro g9 cap9 w9 hown9 hgr9 hat9 hlt9
           have HF := Hi (HLA.out.pushM hown9 hgr9 hat9)
           have hx9 := grown_keep hgr9 (q := bx) (World.block_lt_of_cell? _ _ g1) HPB.out
           have hb9 := grown_keep hgr9 (q := bl) (Array.getElem?_eq_some_iff.1 HLA.out.box).1 (fun e => by have h1 := (owns_lt HLA.out.rM e).2; have h2 := HLA.out.big; omega)
           have z1 : w9.cell? ⟨bl, 6, none⟩ = some (.slice p6 ms.length c6) := by rw [cell_of (hb9.trans HLA.out.box)]; rfl
           have z2 := free_of (hb9.trans HLA.out.box) 6
           have z3 : w9.cell? ⟨bx, 0, none⟩ = some (.string (wb l0)) := (World.cell?_of_block hx9).trans g1
           have z4 : w9.cell? ⟨bx, 2, none⟩ = some (.string (wb l1)) := (World.cell?_of_block hx9).trans g2
           clear hown9 hgr9 hat9 hlt9 hx9 hb9
           refine hK.out _ _ (fun _ => ⟨z1, z3, z4⟩) (fun hH => ?_)
           have hHeld := hH (by decide)
           clear hK K' hH z3 z4
           try simp only [ly]
           refine ey 17 hHeld ?_
           try simp only [ly]
           refine e_step (i := 18) rfl (by kernel_rfl) (fun K' hK => ?_)
           go_simp
           refine hK.out _ _ (fun h => (h rfl).elim) (fun _ => ?_)
           clear hK K'
           try simp only [ly]
           refine e_done (by kernel_rfl) ?_ _
           go_wp2_with fail
           go_roundw
           case rel => exact ⟨k + 1, _, _, ms ++ [wb ln], _, HLT.out, by go_num, Lib.hid ⟨HF.out, HNRI.out, by have := HK.out.2.2; simp; omega⟩⟩
           case measure =>
            have := HLT.out
            simp [intOf]; omega
  · have hke : k = ps.length := by omega
    subst hke
    have k1 : ¬ (ps.length : Int) < (ps.length : Int) := by omega
    go_wp2_with fail
    exact HK42 f g ms vm wr _ _ _ _ _ _ _ _ _ _ _ _ _ _ _ _ _ _ _ _ _ _ _ _ _ _ _ _ _ _ _ _ _ _ _ _ _ _ _ _ _ _ _ _ _ _ _ _ _ _ _ _ _ _ _ _ _ _ _ _ _ _ _ _ _ _ _ _ _ _ _ _ _ _ _ _ _ _ _ _ _ _ _ _ _ _ _ _ _ _ _ _ _ _ _ _ _ _ _ _ _ _ _ _ _ _ _ _ _ _ _ _ _ _ _ _ _ _ _ _ _ _ _ _ _ _ _ _ _ _ _ _ _ _ _ _ _ _ _ _ _ _ _ _ _ _ _ _ _ _ _ _ _ _ _ _ _ _ _ _ _ _ _ _ _ _ _ _ _ _ _ _ _ _ _ _ _ _ _ _ _ _ _ _ _ _ _ _ _ _ _ _ _ _ _ _ _ _ _ _ _ _ _ _ _ _ _ _ _ _ _ _ _ _ _ _ _ _ _ _ _ _ _ _ _ _ _ _ _ _ _ _ _ _ HK.out.1 HK.out.2.1
end Go.Proofs.Ytkndmibmmoikbaa
namespace Go.Proofs.Ytkndmibmmoikbaa
open Go.RowKit
open Cox (Tl)
noncomputable def read26 : Code := (Try.f17.body.bind (fromR 26)).getD .skip
def RdNext28 {K : Type} [Cox.OR K] (W : Cox.Tri K) (H bl bo br : Nat) (a b c : Int) (vt vto vput vm : Value) (ws : List (List (Fin 3))) (f g : Nat → Nat → Int) (pp : Option Addr) (cp : Nat) (ps : List PairD) (wi : World) (KX : Act → World → Prop) : Prop :=
 ∀ (wx : World) (u0 u1 u4 u5 u7 u8 u10 u11 u12 u13 u14 u15 u16 u17 u18 u19 u20 u21 u22 u23 u24 u25 u26 u27 u28 u29 u30 u31 u32 u33 u34 u35 u36 u37 u38 u39 u40 u41 u42 u43 u44 u45 u46 u47 u48 u49 u50 u51 u52 u53 u54 u55 u56 u57 u58 u59 u60 u61 u62 u63 u64 u65 u66 u67 u68 u69 u70 u71 u72 u73 u74 u75 u76 u77 u78 u79 u80 u81 u82 u83 u84 u85 u86 u87 u88 u89 u90 u91 u92 u93 u94 u95 u96 u97 u98 u99 u100 u101 u102 u103 u104 u105 u106 u107 u108 u109 u110 u111 u112 u113 u114 u115 u116 u117 u118 u119 u120 u121 u122 u123 u124 u125 u126 u127 u128 u129 u130 u131 u132 u133 u134 u135 u136 u137 u138 u139 u140 u141 u142 u143 u144 u145 u146 u147 u148 u149 u150 u151 u152 u153 u154 u155 u156 u157 u158 u159 u160 u161 u162 u163 u164 u165 u166 u167 u168 u169 u170 u171 u172 u173 u174 u175 u176 u177 u178 u179 u180 u181 u182 u183 u184 u185 u186 u187 u188 u189 u190 u191 u192 u193 u194 u195 u196 u197 u198 u199 u200 u201 u202 u203 u204 u205 u206 u207 u208 u209 u210 u211 u212 u213 u214 u215 u216 u217 u218 u219 u220 u221 u222 u223 u224 u225 u226 u227 u228 u229 u230 u231 u232 u233 u234 u235 : Value), LRep H bl bo br a b c vt vto vput vm (ws.map wb) ws.length ws.length f g [] wi wx → KX ⟨#[u0, u1, .slice pp ps.length cp, .pointer (some ⟨bo, 0, none⟩), u4, u5, .pointer (some ⟨br, 0, none⟩), u7, u8, .pointer (some ⟨bl, 0, none⟩), u10, u11, u12, u13, u14, u15, u16, u17, u18, u19, u20, u21, u22, u23, u24, u25, u26, u27, u28, u29, u30, u31, u32, u33, u34, u35, u36, u37, u38, u39, u40, u41, u42, u43, u44, u45, u46, u47, u48, u49, u50, u51, u52, u53, u54, u55, u56, u57, u58, u59, u60, u61, u62, u63, u64, u65, u66, u67, u68, u69, u70, u71, u72, u73, u74, u75, u76, u77, u78, u79, u80, u81, u82, u83, u84, u85, u86, u87, u88, u89, u90, u91, u92, u93, u94, u95, u96, u97, u98, u99, u100, u101, u102, u103, u104, u105, u106, u107, u108, u109, u110, u111, u112, u113, u114, u115, u116, u117, u118, u119, u120, u121, u122, u123, u124, u125, u126, u127, u128, u129, u130, u131, u132, u133, u134, u135, u136, u137, u138, u139, u140, u141, u142, u143, u144, u145, u146, u147, u148, u149, u150, u151, u152, u153, u154, u155, u156, u157, u158, u159, u160, u161, u162, u163, u164, u165, u166, u167, u168, u169, u170, u171, u172, u173, u174, u175, u176, u177, u178, u179, u180, u181, u182, u183, u184, u185, u186, u187, u188, u189, u190, u191, u192, u193, u194, u195, u196, u197, u198, u199, u200, u201, u202, u203, u204, u205, u206, u207, u208, u209, u210, u211, u212, u213, u214, u215, u216, u217, u218, u219, u220, u221, u222, u223, u224, u225, u226, u227, u228, u229, u230, u231, u232, u233, u234, u235], []⟩ wx
theorem read_t26 {K : Type} [Cox.OR K] {W : Cox.Tri K} {Q : Ending → World → Prop} {H bl bo br : Nat} {a b c : Int} {vt vto vput vm : Value} {ws : List (List (Fin 3))} {ps : List PairD} {f g : Nat → Nat → Int} {w0 wi wz : World} {e : Int} {pp : Option Addr} {cp : Nat}
 (HRW : Hid (RW W a b c)) (HE : Hid (RdEnd W a b c br ws (glu (eds W ps)) e w0 Q)) (hw : Below w0.heap.size w0 wi) (hbr : w0.heap.size ≤ br) (hwl : ws.length ≤ 200) (hw0 : 0 < ws.length) (hnd : ws.Nodup) (hlp : ps.length ≤ 600) (hps : PairsAt w0 pp ps) (hpg : ∀ q, q ∈ ps → cpair q = 0) (hr : LRep H bl bo br a b c vt vto vput vm (ws.map wb) ws.length ws.length f g [] wi wz)
 (hf : ∀ t (h : t < ws.length) (i : Fin 3), f t i.val = zidx ws (Nb W ws[t] i)) (hg : ∀ t i, g t i = 0)
 (he7 : ¬ Conn W ws → e = 7) (he0 : Conn W ws → PairSeq W ws [] (eds W ps) → e = 0) (he8 : Conn W ws → ¬ PairSeq W ws [] (eds W ps) → e = 8) {u0 u1 u4 u5 u7 u8 u10 u11 u12 u13 u14 u15 u16 u17 u18 u19 u20 u21 u22 u23 u24 u25 u26 u27 u28 u29 u30 u31 u32 u33 u34 u35 u36 u37 u38 u39 u40 u41 u42 u43 u44 u45 u46 u47 u48 u49 u50 u51 u52 u53 u54 u55 u56 u57 u58 u59 u60 u61 u62 u63 u64 u65 u66 u67 u68 u69 u70 u71 u72 u73 u74 u75 u76 u77 u78 u79 u80 u81 u82 u83 u84 u85 u86 u87 u88 u89 u90 u91 u92 u93 u94 u95 u96 u97 u98 u99 u100 u101 u102 u103 u104 u105 u106 u107 u108 u109 u110 u111 u112 u113 u114 u115 u116 u117 u118 u119 u120 u121 u122 u123 u124 u125 u126 u127 u128 u129 u130 u131 u132 u133 u134 u135 u136 u137 u138 u139 u140 u141 u142 u143 u144 u145 u146 u147 u148 u149 u150 u151 u152 u153 u154 u155 u156 u157 u158 u159 u160 u161 u162 u163 u164 u165 u166 u167 u168 u169 u170 u171 u172 u173 u174 u175 u176 u177 u178 u179 u180 u181 u182 u183 u184 u185 u186 u187 u188 u189 u190 u191 u192 u193 u194 u195 u196 u197 u198 u199 u200 u201 u202 u203 u204 u205 u206 u207 u208 u209 u210 u211 u212 u213 u214 u215 u216 u217 u218 u219 u220 u221 u222 u223 u224 u225 u226 u227 u228 u229 u230 u231 u232 u233 u234 u235 : Value} :
 Code.wp Try.prog read26 (bodyPost Try.prog Try.f17 Q) ⟨#[u0, u1, .slice pp ps.length cp, .pointer (some ⟨bo, 0, none⟩), u4, u5, .pointer (some ⟨br, 0, none⟩), u7, u8, .pointer (some ⟨bl, 0, none⟩), u10, u11, u12, u13, u14, u15, u16, u17, u18, u19, u20, u21, u22, u23, u24, u25, u26, u27, u28, u29, u30, u31, u32, u33, u34, u35, u36, u37, u38, u39, u40, u41, u42, u43, u44, u45, u46, u47, u48, u49, u50, u51, u52, u53, u54, u55, u56, u57, u58, u59, u60, u61, u62, u63, u64, u65, u66, u67, u68, u69, u70, u71, u72, u73, u74, u75, u76, u77, u78, u79, u80, u81, u82, u83, u84, u85, u86, u87, u88, u89, u90, u91, u92, u93, u94, u95, u96, u97, u98, u99, u100, u101, u102, u103, u104, u105, u106, u107, u108, u109, u110, u111, u112, u113, u114, u115, u116, u117, u118, u119, u120, u121, u122, u123, u124, u125, u126, u127, u128, u129, u130, u131, u132, u133, u134, u135, u136, u137, u138, u139, u140, u141, u142, u143, u144, u145, u146, u147, u148, u149, u150, u151, u152, u153, u154, u155, u156, u157, u158, u159, u160, u161, u162, u163, u164, u165, u166, u167, u168, u169, u170, u171, u172, u173, u174, u175, u176, u177, u178, u179, u180, u181, u182, u183, u184, u185, u186, u187, u188, u189, u190, u191, u192, u193, u194, u195, u196, u197, u198, u199, u200, u201, u202, u203, u204, u205, u206, u207, u208, u209, u210, u211, u212, u213, u214, u215, u216, u217, u218, u219, u220, u221, u222, u223, u224, u225, u226, u227, u228, u229, u230, u231, u232, u233, u234, u235], []⟩ wz := by
 have HR := Lib.hid hr
 have HW := Hi (And.intro hw hbr)
 have HEQ := Hi (And.intro he7 (And.intro he0 he8))
 conv => arg 2; whnf
 refine wp_seq_k (fun KX hKX => ?_)
 have HK28 : Conn W ws → RdNext28 W H bl bo br a b c vt vto vput vm ws f g pp cp ps wi KX := by
  intro hc wx u0 u1 u4 u5 u7 u8 u10 u11 u12 u13 u14 u15 u16 u17 u18 u19 u20 u21 u22 u23 u24 u25 u26 u27 u28 u29 u30 u31 u32 u33 u34 u35 u36 u37 u38 u39 u40 u41 u42 u43 u44 u45 u46 u47 u48 u49 u50 u51 u52 u53 u54 u55 u56 u57 u58 u59 u60 u61 u62 u63 u64 u65 u66 u67 u68 u69 u70 u71 u72 u73 u74 u75 u76 u77 u78 u79 u80 u81 u82 u83 u84 u85 u86 u87 u88 u89 u90 u91 u92 u93 u94 u95 u96 u97 u98 u99 u100 u101 u102 u103 u104 u105 u106 u107 u108 u109 u110 u111 u112 u113 u114 u115 u116 u117 u118 u119 u120 u121 u122 u123 u124 u125 u126 u127 u128 u129 u130 u131 u132 u133 u134 u135 u136 u137 u138 u139 u140 u141 u142 u143 u144 u145 u146 u147 u148 u149 u150 u151 u152 u153 u154 u155 u156 u157 u158 u159 u160 u161 u162 u163 u164 u165 u166 u167 u168 u169 u170 u171 u172 u173 u174 u175 u176 u177 u178 u179 u180 u181 u182 u183 u184 u185 u186 u187 u188 u189 u190 u191 u192 u193 u194 u195 u196 u197 u198 u199 u200 u201 u202 u203 u204 u205 u206 u207 u208 u209 u210 u211 u212 u213 u214 u215 u216 u217 u218 u219 u220 u221 u222 u223 u224 u225 u226 u227 u228 u229 u230 u231 u232 u233 u234 u235 h1
  exact hKX _ _ (read_t28 HRW HE HW.out.1 HW.out.2 hwl hnd hlp hps hpg h1 (RI.start hf hg) (he0 hc) (he8 hc))
 have HK28 := Lib.hid HK28
 obtain ⟨pt, ct, hvt, hst⟩ := hr.strs
 obtain ⟨pto, cto, hvto, hto⟩ := rowsAt hr.rTo
 have TG := Hi (together_any (a := a) (b := b) (c := c) ws hwl hw0 hnd vput vm wz pt pto ct cto f hto hf)
 have x0 : wz.cell? ⟨bl, 0, none⟩ = some (.int .i64 a) := by rw [cell_of hr.box]; rfl
 have x1 : wz.cell? ⟨bl, 1, none⟩ = some (.int .i64 b) := by rw [cell_of hr.box]; rfl
 have x2 : wz.cell? ⟨bl, 2, none⟩ = some (.int .i64 c) := by rw [cell_of hr.box]; rfl
 have x3 : wz.cell? ⟨bl, 3, none⟩ = some (.slice pt ws.length ct) := by rw [hr.cells.1, hvt]
 have x4 : wz.cell? ⟨bl, 4, none⟩ = some (.slice pto ws.length cto) := by rw [hr.cells.2.1, hvto]
 have x5 : wz.cell? ⟨bl, 5, none⟩ = some vput := hr.cells.2.2.1
 have x6 : wz.cell? ⟨bl, 6, none⟩ = some vm := hr.cells.2.2.2.1
 unfold lval at TG
 clear hKX hr hw hbr hnd hps hpg hf hg he7 he0 he8 hst hto hvt hvto
 by_cases hc : Conn W ws
 · have TG2 : Hid (Calls Try.prog 40 #[.agg #[.int .i64 a, .int .i64 b, .int .i64 c, .slice pt ws.length ct, .slice pto ws.length cto, vput, vm]] wz fun e w' => e = .returned (.bool true) ∧ Below wz.heap.size wz w') := Hi (TG.out.mono (by
    rintro e w' ⟨bb, rfl, h1, h2⟩
    rw [h1.2 hc]
    exact ⟨rfl, h2⟩))
   have HC := Hi (HK28.out hc)
   clear hc TG HK28
   go_wp2_with (go_at_call 40; refine TG2.out.mono ?_; rintro r w5 ⟨rfl, hb5⟩; have HB5 := Lib.hid hb5; clear hb5)
   exact HC.out w5 _ _ _ _ _ _ _ _ _ _ _ _ _ _ _ _ _ _ _ _ _ _ _ _ _ _ _ _ _ _ _ _ _ _ _ _ _ _ _ _ _ _ _ _ _ _ _ _ _ _ _ _ _ _ _ _ _ _ _ _ _ _ _ _ _ _ _ _ _ _ _ _ _ _ _ _ _ _ _ _ _ _ _ _ _ _ _ _ _ _ _ _ _ _ _ _ _ _ _ _ _ _ _ _ _ _ _ _ _ _ _ _ _ _ _ _ _ _ _ _ _ _ _ _ _ _ _ _ _ _ _ _ _ _ _ _ _ _ _ _ _ _ _ _ _ _ _ _ _ _ _ _ _ _ _ _ _ _ _ _ _ _ _ _ _ _ _ _ _ _ _ _ _ _ _ _ _ _ _ _ _ _ _ _ _ _ _ _ _ _ _ _ _ _ _ _ _ _ _ _ _ _ _ _ _ _ _ _ _ _ _ _ _ _ _ _ _ _ _ _ _ _ _ _ _ _ _ _ _ _ _ _ (HR.out.below HB5.out)
 · have TG2 : Hid (Calls Try.prog 40 #[.agg #[.int .i64 a, .int .i64 b, .int .i64 c, .slice pt ws.length ct, .slice pto ws.length cto, vput, vm]] wz fun e w' => e = .returned (.bool false) ∧ Below wz.heap.size wz w') := Hi (TG.out.mono (by
    rintro e w' ⟨bb, rfl, h1, h2⟩
    cases bb with
    | true => exact (hc (h1.1 rfl)).elim
    | false => exact ⟨rfl, h2⟩))
   have HN : Hid (e = 7) := Hi (HEQ.out.1 hc)
   clear hc TG HK28
   go_upto_region 27 with (go_at_call 40; refine TG2.out.mono ?_; rintro r w5 ⟨rfl, hb5⟩; have HB5 := Lib.hid hb5; clear hb5)
   have HL6 := Hi (HR.out.below HB5.out)
   obtain ⟨r0, r1, r2, r3, r4, r5, r6, t0, t1, t2, t3, t4, t5, t6⟩ := res_facts HL6.out.res
   clear x0 x1 x2 x3 x4 x5 x6
   go_wp2_with fail
   refine read_door (e := 7) rfl rfl (set7_at HL6.out.res (.int .i64 0) (.int .i64 0) (.int .i64 0) (.slice none 0 0) (.slice none 0 0) (.slice none 0 0) (.slice none 0 0)) ?_
   have := HE.out.no (by rw [HN.out]; decide) _ (set7_below (HW.out.1.trans (HL6.out.bel.mono HW.out.1.size)) HW.out.2 (.int .i64 0) (.int .i64 0) (.int .i64 0) (.slice none 0 0) (.slice none 0 0) (.slice none 0 0) (.slice none 0 0))
   rw [HN.out] at this
   exact this
end Go.Proofs.Ytkndmibmmoikbaa
