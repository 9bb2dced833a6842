/- Chapter 10: Rd8 Rf8 Rf9. -/
import Derived.Test.YtkndmibmmoikbaaC35
set_option linter.all false
set_option maxRecDepth 100000
set_option maxHeartbeats 16000000
namespace Go.Proofs.Ytkndmibmmoikbaa
open Go.RowKit
open Cox (Tl)
noncomputable def read13 : Code := (Try.f17.body.bind (fromR 13)).getD .skip
noncomputable def read5 : Code := (Try.f17.body.bind (fromR 5)).getD .skip
noncomputable def read4 : Code := (Try.f17.body.bind (fromR 4)).getD .skip
noncomputable def nbF {K : Type} [Cox.OR K] (W : Cox.Tri K) (ws : List (List (Fin 3))) (t i : Nat) : Int := zidx ws (Nb W (ws.getD t []) ⟨i % 3, Nat.mod_lt _ (by decide)⟩)
theorem nbF_at {K : Type} [Cox.OR K] (W : Cox.Tri K) (ws : List (List (Fin 3))) (t : Nat) (h : t < ws.length) (i : Fin 3) : nbF W ws t i.val = zidx ws (Nb W ws[t] i) := by
 unfold nbF
 rw [List.getD_eq_getElem?_getD, List.getElem?_eq_getElem h]
 congr 2
 exact Fin.ext (Nat.mod_eq_of_lt i.isLt)
theorem strsAt_own {w : World} {B : Nat} {v : Value} {ls : List ByteArray} (h : w.ownsRow B 9 1 v ls.length (ls.map .string)) : ∃ pt ct, v = .slice pt ls.length ct ∧ StrsAt w pt ls := by
 obtain ⟨pt, ct, hv⟩ := owns_form h
 refine ⟨pt, ct, hv, fun hne => ?_⟩
 have hl : 0 < ls.length := List.length_pos_iff.2 hne
 obtain ⟨q, cap, hv2, _⟩ := owns_at h (i := 0) (by simpa using hl)
 refine ⟨q, 0, ?_, fun i hi => ?_⟩
 · rw [hv] at hv2; simp at hv2; exact hv2.1
 · obtain ⟨q', cap', hv3, hc⟩ := owns_at h (i := i) (by rw [List.length_map]; exact hi)
   have : q = q' := by rw [hv2] at hv3; simp at hv3; exact hv3.1
   rw [Nat.zero_add, this, hc, List.getElem_map]
def RdNext15 {K : Type} [Cox.OR K] (W : Cox.Tri K) (H bl bo br : Nat) (a b c : Int) (vt vto vput vm : Value) (ws : List (List (Fin 3))) (f g : Nat → Nat → Int) (pp : Option Addr) (cp : Nat) (ps : List PairD) (wi : World) (KX : Act → World → Prop) : Prop :=
 ∀ (wx : World) (u0 u1 u4 u5 u7 u8 u10 u11 u12 u13 u14 u15 u16 u17 u18 u19 u20 u21 u22 u23 u24 u25 u26 u27 u28 u29 u30 u31 u32 u33 u34 u35 u36 u37 u38 u39 u40 u41 u42 u43 u44 u45 u46 u47 u48 u49 u50 u51 u52 u53 u54 u55 u56 u57 u58 u59 u60 u61 u62 u63 u64 u65 u66 u67 u68 u69 u70 u71 u72 u73 u74 u75 u76 u77 u78 u79 u80 u81 u82 u83 u84 u85 u86 u87 u88 u89 u90 u91 u92 u93 u94 u95 u96 u97 u98 u99 u100 u101 u102 u103 u104 u105 u106 u107 u108 u109 u110 u111 u112 u113 u114 u115 u116 u117 u118 u119 u120 u121 u122 u123 u124 u125 u126 u127 u128 u129 u130 u131 u132 u133 u134 u135 u136 u137 u138 u139 u140 u141 u142 u143 u144 u145 u146 u147 u148 u149 u150 u151 u152 u153 u154 u155 u156 u157 u158 u159 u160 u161 u162 u163 u164 u165 u166 u167 u168 u169 u170 u171 u172 u173 u174 u175 u176 u177 u178 u179 u180 u181 u182 u183 u184 u185 u186 u187 u188 u189 u190 u191 u192 u193 u194 u195 u196 u197 u198 u199 u200 u201 u202 u203 u204 u205 u206 u207 u208 u209 u210 u211 u212 u213 u214 u215 u216 u217 u218 u219 u220 u221 u222 u223 u224 u225 u226 u227 u228 u229 u230 u231 u232 u233 u234 u235 : Value), LRep H bl bo br a b c vt vto vput vm (ws.map wb) 0 0 f g [] wi wx → KX ⟨#[u0, u1, .slice pp ps.length cp, .pointer (some ⟨bo, 0, none⟩), u4, u5, .pointer (some ⟨br, 0, none⟩), u7, u8, .pointer (some ⟨bl, 0, none⟩), u10, u11, u12, u13, u14, u15, u16, u17, u18, u19, u20, u21, u22, u23, u24, u25, u26, u27, u28, u29, u30, u31, u32, u33, u34, u35, u36, u37, u38, u39, u40, u41, u42, u43, u44, u45, u46, u47, u48, u49, u50, u51, u52, u53, u54, u55, u56, u57, u58, u59, u60, u61, u62, u63, u64, u65, u66, u67, u68, u69, u70, u71, u72, u73, u74, u75, u76, u77, u78, u79, u80, u81, u82, u83, u84, u85, u86, u87, u88, u89, u90, u91, u92, u93, u94, u95, u96, u97, u98, u99, u100, u101, u102, u103, u104, u105, u106, u107, u108, u109, u110, u111, u112, u113, u114, u115, u116, u117, u118, u119, u120, u121, u122, u123, u124, u125, u126, u127, u128, u129, u130, u131, u132, u133, u134, u135, u136, u137, u138, u139, u140, u141, u142, u143, u144, u145, u146, u147, u148, u149, u150, u151, u152, u153, u154, u155, u156, u157, u158, u159, u160, u161, u162, u163, u164, u165, u166, u167, u168, u169, u170, u171, u172, u173, u174, u175, u176, u177, u178, u179, u180, u181, u182, u183, u184, u185, u186, u187, u188, u189, u190, u191, u192, u193, u194, u195, u196, u197, u198, u199, u200, u201, u202, u203, u204, u205, u206, u207, u208, u209, u210, u211, u212, u213, u214, u215, u216, u217, u218, u219, u220, u221, u222, u223, u224, u225, u226, u227, u228, u229, u230, u231, u232, u233, u234, u235], []⟩ wx
def RdNext13 {K : Type} [Cox.OR K] (W : Cox.Tri K) (H bl bo br : Nat) (a b c : Int) (vto vput vm : Value) (ws : List (List (Fin 3))) (f g : Nat → Nat → Int) (px pp : Option Addr) (nt cx cp : Nat) (ps : List PairD) (wi : World) (KX : Act → World → Prop) : Prop :=
 ∀ (vt : Value) (wx : World) (u0 u4 u5 u7 u8 u10 u11 u12 u13 u14 u15 u16 u17 u18 u19 u20 u21 u22 u23 u24 u25 u26 u27 u28 u29 u30 u31 u32 u33 u34 u35 u36 u37 u38 u39 u40 u41 u42 u43 u44 u45 u46 u47 u48 u49 u50 u51 u52 u53 u54 u55 u56 u57 u58 u59 u60 u61 u62 u63 u64 u65 u66 u67 u68 u69 u70 u71 u72 u73 u74 u75 u76 u77 u78 u79 u80 u81 u82 u83 u84 u85 u86 u87 u88 u89 u90 u91 u92 u93 u94 u95 u96 u97 u98 u99 u100 u101 u102 u103 u104 u105 u106 u107 u108 u109 u110 u111 u112 u113 u114 u115 u116 u117 u118 u119 u120 u121 u122 u123 u124 u125 u126 u127 u128 u129 u130 u131 u132 u133 u134 u135 u136 u137 u138 u139 u140 u141 u142 u143 u144 u145 u146 u147 u148 u149 u150 u151 u152 u153 u154 u155 u156 u157 u158 u159 u160 u161 u162 u163 u164 u165 u166 u167 u168 u169 u170 u171 u172 u173 u174 u175 u176 u177 u178 u179 u180 u181 u182 u183 u184 u185 u186 u187 u188 u189 u190 u191 u192 u193 u194 u195 u196 u197 u198 u199 u200 u201 u202 u203 u204 u205 u206 u207 u208 u209 u210 u211 u212 u213 u214 u215 u216 u217 u218 u219 u220 u221 u222 u223 u224 u225 u226 u227 u228 u229 u230 u231 u232 u233 u234 u235 : Value), ws.Nodup → LRep H bl bo br a b c vt vto vput vm (ws.map wb) 0 0 f g [] wi wx → KX ⟨#[u0, .slice px nt cx, .slice pp ps.length cp, .pointer (some ⟨bo, 0, none⟩), u4, u5, .pointer (some ⟨br, 0, none⟩), u7, u8, .pointer (some ⟨bl, 0, none⟩), u10, u11, u12, u13, u14, u15, u16, u17, u18, u19, u20, u21, u22, u23, u24, u25, u26, u27, u28, u29, u30, u31, u32, u33, u34, u35, u36, u37, u38, u39, u40, u41, u42, u43, u44, u45, u46, u47, u48, u49, u50, u51, u52, u53, u54, u55, u56, u57, u58, u59, u60, u61, u62, u63, u64, u65, u66, u67, u68, u69, u70, u71, u72, u73, u74, u75, u76, u77, u78, u79, u80, u81, u82, u83, u84, u85, u86, u87, u88, u89, u90, u91, u92, u93, u94, u95, u96, u97, u98, u99, u100, u101, u102, u103, u104, u105, u106, u107, u108, u109, u110, u111, u112, u113, u114, u115, u116, u117, u118, u119, u120, u121, u122, u123, u124, u125, u126, u127, u128, u129, u130, u131, u132, u133, u134, u135, u136, u137, u138, u139, u140, u141, u142, u143, u144, u145, u146, u147, u148, u149, u150, u151, u152, u153, u154, u155, u156, u157, u158, u159, u160, u161, u162, u163, u164, u165, u166, u167, u168, u169, u170, u171, u172, u173, u174, u175, u176, u177, u178, u179, u180, u181, u182, u183, u184, u185, u186, u187, u188, u189, u190, u191, u192, u193, u194, u195, u196, u197, u198, u199, u200, u201, u202, u203, u204, u205, u206, u207, u208, u209, u210, u211, u212, u213, u214, u215, u216, u217, u218, u219, u220, u221, u222, u223, u224, u225, u226, u227, u228, u229, u230, u231, u232, u233, u234, u235], []⟩ wx
def RdNext4 (bo br : Nat) (px pp : Option Addr) (nt cx cp : Nat) (ps : List PairD) (wi : World) (KX : Act → World → Prop) : Prop :=
 ∀ (wx : World) (u0 u4 u5 u7 u8 u9 u10 u11 u12 u13 u14 u15 u16 u17 u18 u19 u20 u21 u22 u23 u24 u25 u26 u27 u28 u29 u30 u31 u32 u33 u34 u35 u36 u37 u38 u39 u40 u41 u42 u43 u44 u45 u46 u47 u48 u49 u50 u51 u52 u53 u54 u55 u56 u57 u58 u59 u60 u61 u62 u63 u64 u65 u66 u67 u68 u69 u70 u71 u72 u73 u74 u75 u76 u77 u78 u79 u80 u81 u82 u83 u84 u85 u86 u87 u88 u89 u90 u91 u92 u93 u94 u95 u96 u97 u98 u99 u100 u101 u102 u103 u104 u105 u106 u107 u108 u109 u110 u111 u112 u113 u114 u115 u116 u117 u118 u119 u120 u121 u122 u123 u124 u125 u126 u127 u128 u129 u130 u131 u132 u133 u134 u135 u136 u137 u138 u139 u140 u141 u142 u143 u144 u145 u146 u147 u148 u149 u150 u151 u152 u153 u154 u155 u156 u157 u158 u159 u160 u161 u162 u163 u164 u165 u166 u167 u168 u169 u170 u171 u172 u173 u174 u175 u176 u177 u178 u179 u180 u181 u182 u183 u184 u185 u186 u187 u188 u189 u190 u191 u192 u193 u194 u195 u196 u197 u198 u199 u200 u201 u202 u203 u204 u205 u206 u207 u208 u209 u210 u211 u212 u213 u214 u215 u216 u217 u218 u219 u220 u221 u222 u223 u224 u225 u226 u227 u228 u229 u230 u231 u232 u233 u234 u235 : Value), Below wi.heap.size wi wx → KX ⟨#[u0, .slice px nt cx, .slice pp ps.length cp, .pointer (some ⟨bo, 0, none⟩), u4, u5, .pointer (some ⟨br, 0, none⟩), u7, u8, u9, u10, u11, u12, u13, u14, u15, u16, u17, u18, u19, u20, u21, u22, u23, u24, u25, u26, u27, u28, u29, u30, u31, u32, u33, u34, u35, u36, u37, u38, u39, u40, u41, u42, u43, u44, u45, u46, u47, u48, u49, u50, u51, u52, u53, u54, u55, u56, u57, u58, u59, u60, u61, u62, u63, u64, u65, u66, u67, u68, u69, u70, u71, u72, u73, u74, u75, u76, u77, u78, u79, u80, u81, u82, u83, u84, u85, u86, u87, u88, u89, u90, u91, u92, u93, u94, u95, u96, u97, u98, u99, u100, u101, u102, u103, u104, u105, u106, u107, u108, u109, u110, u111, u112, u113, u114, u115, u116, u117, u118, u119, u120, u121, u122, u123, u124, u125, u126, u127, u128, u129, u130, u131, u132, u133, u134, u135, u136, u137, u138, u139, u140, u141, u142, u143, u144, u145, u146, u147, u148, u149, u150, u151, u152, u153, u154, u155, u156, u157, u158, u159, u160, u161, u162, u163, u164, u165, u166, u167, u168, u169, u170, u171, u172, u173, u174, u175, u176, u177, u178, u179, u180, u181, u182, u183, u184, u185, u186, u187, u188, u189, u190, u191, u192, u193, u194, u195, u196, u197, u198, u199, u200, u201, u202, u203, u204, u205, u206, u207, u208, u209, u210, u211, u212, u213, u214, u215, u216, u217, u218, u219, u220, u221, u222, u223, u224, u225, u226, u227, u228, u229, u230, u231, u232, u233, u234, u235], []⟩ wx
def RdNext5 {K : Type} [Cox.OR K] (W : Cox.Tri K) (H bl bo br : Nat) (a b c : Int) (vt vto vput vm : Value) (f g : Nat → Nat → Int) (px pp : Option Addr) (nt cx cp : Nat) (ps : List PairD) (wi : World) (KX : Act → World → Prop) : Prop :=
 ∀ (wx : World) (u0 u4 u5 u7 u8 u10 u11 u12 u13 u14 u15 u16 u17 u18 u19 u20 u21 u22 u23 u24 u25 u26 u27 u28 u29 u30 u31 u32 u33 u34 u35 u36 u37 u38 u39 u40 u41 u42 u43 u44 u45 u46 u47 u48 u49 u50 u51 u52 u53 u54 u55 u56 u57 u58 u59 u60 u61 u62 u63 u64 u65 u66 u67 u68 u69 u70 u71 u72 u73 u74 u75 u76 u77 u78 u79 u80 u81 u82 u83 u84 u85 u86 u87 u88 u89 u90 u91 u92 u93 u94 u95 u96 u97 u98 u99 u100 u101 u102 u103 u104 u105 u106 u107 u108 u109 u110 u111 u112 u113 u114 u115 u116 u117 u118 u119 u120 u121 u122 u123 u124 u125 u126 u127 u128 u129 u130 u131 u132 u133 u134 u135 u136 u137 u138 u139 u140 u141 u142 u143 u144 u145 u146 u147 u148 u149 u150 u151 u152 u153 u154 u155 u156 u157 u158 u159 u160 u161 u162 u163 u164 u165 u166 u167 u168 u169 u170 u171 u172 u173 u174 u175 u176 u177 u178 u179 u180 u181 u182 u183 u184 u185 u186 u187 u188 u189 u190 u191 u192 u193 u194 u195 u196 u197 u198 u199 u200 u201 u202 u203 u204 u205 u206 u207 u208 u209 u210 u211 u212 u213 u214 u215 u216 u217 u218 u219 u220 u221 u222 u223 u224 u225 u226 u227 u228 u229 u230 u231 u232 u233 u234 u235 : Value), LRep H bl bo br a b c vt vto vput vm [] 0 0 f g [] wi wx → KX ⟨#[u0, .slice px nt cx, .slice pp ps.length cp, .pointer (some ⟨bo, 0, none⟩), u4, u5, .pointer (some ⟨br, 0, none⟩), u7, u8, .pointer (some ⟨bl, 0, none⟩), u10, u11, u12, u13, u14, u15, u16, u17, u18, u19, u20, u21, u22, u23, u24, u25, u26, u27, u28, u29, u30, u31, u32, u33, u34, u35, u36, u37, u38, u39, u40, u41, u42, u43, u44, u45, u46, u47, u48, u49, u50, u51, u52, u53, u54, u55, u56, u57, u58, u59, u60, u61, u62, u63, u64, u65, u66, u67, u68, u69, u70, u71, u72, u73, u74, u75, u76, u77, u78, u79, u80, u81, u82, u83, u84, u85, u86, u87, u88, u89, u90, u91, u92, u93, u94, u95, u96, u97, u98, u99, u100, u101, u102, u103, u104, u105, u106, u107, u108, u109, u110, u111, u112, u113, u114, u115, u116, u117, u118, u119, u120, u121, u122, u123, u124, u125, u126, u127, u128, u129, u130, u131, u132, u133, u134, u135, u136, u137, u138, u139, u140, u141, u142, u143, u144, u145, u146, u147, u148, u149, u150, u151, u152, u153, u154, u155, u156, u157, u158, u159, u160, u161, u162, u163, u164, u165, u166, u167, u168, u169, u170, u171, u172, u173, u174, u175, u176, u177, u178, u179, u180, u181, u182, u183, u184, u185, u186, u187, u188, u189, u190, u191, u192, u193, u194, u195, u196, u197, u198, u199, u200, u201, u202, u203, u204, u205, u206, u207, u208, u209, u210, u211, u212, u213, u214, u215, u216, u217, u218, u219, u220, u221, u222, u223, u224, u225, u226, u227, u228, u229, u230, u231, u232, u233, u234, u235], []⟩ wx
theorem read_t13 {K : Type} [Cox.OR K] {W : Cox.Tri K} {Q : Ending → World → Prop} {H bl bo br nt cx : Nat} {px : Option Addr} {a b c : Int} {vt vto vput vm : Value} {ws : List (List (Fin 3))} {ps : List PairD} {f g : Nat → Nat → Int} {w0 wi wz : World} {e : Int} {pp : Option Addr} {cp : Nat}
 (HRW : Hid (RW W a b c)) (HE : Hid (RdEnd W a b c br ws (glu (eds W ps)) e w0 Q)) (hw : Below w0.heap.size w0 wi) (hbr : w0.heap.size ≤ br) (hwl : ws.length ≤ 200) (hnt : nt = ws.length) (hnd : ws.Nodup) (hul : ∀ u, u ∈ ws → u.length ≤ 60) (hlp : ps.length ≤ 600) (hps : PairsAt w0 pp ps) (hpg : ∀ q, q ∈ ps → cpair q = 0) (hr : LRep H bl bo br a b c vt vto vput vm (ws.map wb) 0 0 f g [] wi wz)
 (hf : ∀ t (h : t < ws.length) (i : Fin 3), f t i.val = zidx ws (Nb W ws[t] i)) (hg : ∀ t i, g t i = 0)
 (he7 : Apart W ws → e = 7) (he0 : ¬ Apart W ws → PairSeq W ws [] (eds W ps) → e = 0) (he8 : ¬ Apart W ws → ¬ PairSeq W ws [] (eds W ps) → e = 8) {u0 u4 u5 u7 u8 u10 u11 u12 u13 u14 u15 u16 u17 u18 u19 u20 u21 u22 u23 u24 u25 u26 u27 u28 u29 u30 u31 u32 u33 u34 u35 u36 u37 u38 u39 u40 u41 u42 u43 u44 u45 u46 u47 u48 u49 u50 u51 u52 u53 u54 u55 u56 u57 u58 u59 u60 u61 u62 u63 u64 u65 u66 u67 u68 u69 u70 u71 u72 u73 u74 u75 u76 u77 u78 u79 u80 u81 u82 u83 u84 u85 u86 u87 u88 u89 u90 u91 u92 u93 u94 u95 u96 u97 u98 u99 u100 u101 u102 u103 u104 u105 u106 u107 u108 u109 u110 u111 u112 u113 u114 u115 u116 u117 u118 u119 u120 u121 u122 u123 u124 u125 u126 u127 u128 u129 u130 u131 u132 u133 u134 u135 u136 u137 u138 u139 u140 u141 u142 u143 u144 u145 u146 u147 u148 u149 u150 u151 u152 u153 u154 u155 u156 u157 u158 u159 u160 u161 u162 u163 u164 u165 u166 u167 u168 u169 u170 u171 u172 u173 u174 u175 u176 u177 u178 u179 u180 u181 u182 u183 u184 u185 u186 u187 u188 u189 u190 u191 u192 u193 u194 u195 u196 u197 u198 u199 u200 u201 u202 u203 u204 u205 u206 u207 u208 u209 u210 u211 u212 u213 u214 u215 u216 u217 u218 u219 u220 u221 u222 u223 u224 u225 u226 u227 u228 u229 u230 u231 u232 u233 u234 u235 : Value} :
 Code.wp Try.prog read13 (bodyPost Try.prog Try.f17 Q) ⟨#[u0, .slice px nt cx, .slice pp ps.length cp, .pointer (some ⟨bo, 0, none⟩), u4, u5, .pointer (some ⟨br, 0, none⟩), u7, u8, .pointer (some ⟨bl, 0, none⟩), u10, u11, u12, u13, u14, u15, u16, u17, u18, u19, u20, u21, u22, u23, u24, u25, u26, u27, u28, u29, u30, u31, u32, u33, u34, u35, u36, u37, u38, u39, u40, u41, u42, u43, u44, u45, u46, u47, u48, u49, u50, u51, u52, u53, u54, u55, u56, u57, u58, u59, u60, u61, u62, u63, u64, u65, u66, u67, u68, u69, u70, u71, u72, u73, u74, u75, u76, u77, u78, u79, u80, u81, u82, u83, u84, u85, u86, u87, u88, u89, u90, u91, u92, u93, u94, u95, u96, u97, u98, u99, u100, u101, u102, u103, u104, u105, u106, u107, u108, u109, u110, u111, u112, u113, u114, u115, u116, u117, u118, u119, u120, u121, u122, u123, u124, u125, u126, u127, u128, u129, u130, u131, u132, u133, u134, u135, u136, u137, u138, u139, u140, u141, u142, u143, u144, u145, u146, u147, u148, u149, u150, u151, u152, u153, u154, u155, u156, u157, u158, u159, u160, u161, u162, u163, u164, u165, u166, u167, u168, u169, u170, u171, u172, u173, u174, u175, u176, u177, u178, u179, u180, u181, u182, u183, u184, u185, u186, u187, u188, u189, u190, u191, u192, u193, u194, u195, u196, u197, u198, u199, u200, u201, u202, u203, u204, u205, u206, u207, u208, u209, u210, u211, u212, u213, u214, u215, u216, u217, u218, u219, u220, u221, u222, u223, u224, u225, u226, u227, u228, u229, u230, u231, u232, u233, u234, u235], []⟩ wz := by
 have HR := Lib.hid hr
 have HW := Hi (And.intro hw hbr)
 conv => arg 2; whnf
 refine wp_seq_k (fun KX hKX => ?_)
 by_cases h0 : ws = []
 · have HN : Hid (e = 7) := Hi (he7 (.inl h0))
   have hn0 : nt = 0 := by rw [hnt, h0]; rfl
   subst hn0
   clear hKX hr hf hul hg hw hbr hnd hps hpg he7 he0 he8 h0 hnt
   have HL6 := HR
   obtain ⟨r0, r1, r2, r3, r4, r5, r6, t0, t1, t2, t3, t4, t5, t6⟩ := res_facts HL6.out.res
   go_wp2_with fail
   refine read_door (e := 7) rfl rfl (set7_at HL6.out.res (.int .i64 0) (.int .i64 0) (.int .i64 0) (.slice none 0 0) (.slice none 0 0) (.slice none 0 0) (.slice none 0 0)) ?_
   have := HE.out.no (by rw [HN.out]; decide) _ (set7_below (HW.out.1.trans (HL6.out.bel.mono HW.out.1.size)) HW.out.2 (.int .i64 0) (.int .i64 0) (.int .i64 0) (.slice none 0 0) (.slice none 0 0) (.slice none 0 0) (.slice none 0 0))
   rw [HN.out] at this
   exact this
 · have HK15 : RdNext15 W H bl bo br a b c vt vto vput vm ws f g pp cp ps wi KX := by
    intro wx u0 u1 u4 u5 u7 u8 u10 u11 u12 u13 u14 u15 u16 u17 u18 u19 u20 u21 u22 u23 u24 u25 u26 u27 u28 u29 u30 u31 u32 u33 u34 u35 u36 u37 u38 u39 u40 u41 u42 u43 u44 u45 u46 u47 u48 u49 u50 u51 u52 u53 u54 u55 u56 u57 u58 u59 u60 u61 u62 u63 u64 u65 u66 u67 u68 u69 u70 u71 u72 u73 u74 u75 u76 u77 u78 u79 u80 u81 u82 u83 u84 u85 u86 u87 u88 u89 u90 u91 u92 u93 u94 u95 u96 u97 u98 u99 u100 u101 u102 u103 u104 u105 u106 u107 u108 u109 u110 u111 u112 u113 u114 u115 u116 u117 u118 u119 u120 u121 u122 u123 u124 u125 u126 u127 u128 u129 u130 u131 u132 u133 u134 u135 u136 u137 u138 u139 u140 u141 u142 u143 u144 u145 u146 u147 u148 u149 u150 u151 u152 u153 u154 u155 u156 u157 u158 u159 u160 u161 u162 u163 u164 u165 u166 u167 u168 u169 u170 u171 u172 u173 u174 u175 u176 u177 u178 u179 u180 u181 u182 u183 u184 u185 u186 u187 u188 u189 u190 u191 u192 u193 u194 u195 u196 u197 u198 u199 u200 u201 u202 u203 u204 u205 u206 u207 u208 u209 u210 u211 u212 u213 u214 u215 u216 u217 u218 u219 u220 u221 u222 u223 u224 u225 u226 u227 u228 u229 u230 u231 u232 u233 u234 u235 h1
    have hA : ¬ Conn W ws → Apart W ws := fun h => .inr (.inr h)
    have hB : Conn W ws → ¬ Apart W ws := fun hc h => by
     rcases h with h | h | h
     · exact h0 h
     · exact h hnd
     · exact h hc
    exact hKX _ _ (read_t15 HRW HE hw hbr hwl (List.length_pos_iff.2 h0) hnd hul hlp hps hpg h1 hf hg (fun h => he7 (hA h)) (fun h => he0 (hB h)) (fun h => he8 (hB h)))
   have h00 : ((nt : Int) == 0) = false := by
    have := List.length_pos_iff.2 h0
    simp; omega
   clear hKX hr hf hul hg hw hbr hnd hps hpg he7 he0 he8 h0 hnt
   go_wp2_with fail
   exact HK15 wz _ _ _ _ _ _ _ _ _ _ _ _ _ _ _ _ _ _ _ _ _ _ _ _ _ _ _ _ _ _ _ _ _ _ _ _ _ _ _ _ _ _ _ _ _ _ _ _ _ _ _ _ _ _ _ _ _ _ _ _ _ _ _ _ _ _ _ _ _ _ _ _ _ _ _ _ _ _ _ _ _ _ _ _ _ _ _ _ _ _ _ _ _ _ _ _ _ _ _ _ _ _ _ _ _ _ _ _ _ _ _ _ _ _ _ _ _ _ _ _ _ _ _ _ _ _ _ _ _ _ _ _ _ _ _ _ _ _ _ _ _ _ _ _ _ _ _ _ _ _ _ _ _ _ _ _ _ _ _ _ _ _ _ _ _ _ _ _ _ _ _ _ _ _ _ _ _ _ _ _ _ _ _ _ _ _ _ _ _ _ _ _ _ _ _ _ _ _ _ _ _ _ _ _ _ _ _ _ _ _ _ _ _ _ _ _ _ _ _ _ _ _ _ _ _ _ _ _ _ _ _ _ HR.out
theorem read_t5 {K : Type} [Cox.OR K] {W : Cox.Tri K} {Q : Ending → World → Prop} {H bl bo br nt cx : Nat} {px : Option Addr} {a b c : Int} {vt vto vput vm : Value} {ts : List ByteArray} {ws : List (List (Fin 3))} {ps : List PairD} {f g : Nat → Nat → Int} {w0 wi wz : World} {e : Int} {pp : Option Addr} {cp : Nat}
 (HRW : Hid (RW W a b c)) (HE : Hid (RdEnd W a b c br ws (glu (eds W ps)) e w0 Q)) (hw : Below w0.heap.size w0 wi) (hbr : w0.heap.size ≤ br) (hwl : ws.length ≤ 200) (hnt : nt = ts.length) (hts : StrsAt w0 px ts) (hws : ws = tws W ts) (hcw : ∀ s, s ∈ ts → cw s = 0) (hlp : ps.length ≤ 600) (hps : PairsAt w0 pp ps) (hpg : ∀ q, q ∈ ps → cpair q = 0) (hr : LRep H bl bo br a b c vt vto vput vm [] 0 0 f g [] wi wz)
 (hf : ∀ t (h : t < ws.length) (i : Fin 3), f t i.val = zidx ws (Nb W ws[t] i)) (hg : ∀ t i, g t i = 0)
 (he7 : Apart W ws → e = 7) (he0 : ¬ Apart W ws → PairSeq W ws [] (eds W ps) → e = 0) (he8 : ¬ Apart W ws → ¬ PairSeq W ws [] (eds W ps) → e = 8) {u0 u4 u5 u7 u8 u10 u11 u12 u13 u14 u15 u16 u17 u18 u19 u20 u21 u22 u23 u24 u25 u26 u27 u28 u29 u30 u31 u32 u33 u34 u35 u36 u37 u38 u39 u40 u41 u42 u43 u44 u45 u46 u47 u48 u49 u50 u51 u52 u53 u54 u55 u56 u57 u58 u59 u60 u61 u62 u63 u64 u65 u66 u67 u68 u69 u70 u71 u72 u73 u74 u75 u76 u77 u78 u79 u80 u81 u82 u83 u84 u85 u86 u87 u88 u89 u90 u91 u92 u93 u94 u95 u96 u97 u98 u99 u100 u101 u102 u103 u104 u105 u106 u107 u108 u109 u110 u111 u112 u113 u114 u115 u116 u117 u118 u119 u120 u121 u122 u123 u124 u125 u126 u127 u128 u129 u130 u131 u132 u133 u134 u135 u136 u137 u138 u139 u140 u141 u142 u143 u144 u145 u146 u147 u148 u149 u150 u151 u152 u153 u154 u155 u156 u157 u158 u159 u160 u161 u162 u163 u164 u165 u166 u167 u168 u169 u170 u171 u172 u173 u174 u175 u176 u177 u178 u179 u180 u181 u182 u183 u184 u185 u186 u187 u188 u189 u190 u191 u192 u193 u194 u195 u196 u197 u198 u199 u200 u201 u202 u203 u204 u205 u206 u207 u208 u209 u210 u211 u212 u213 u214 u215 u216 u217 u218 u219 u220 u221 u222 u223 u224 u225 u226 u227 u228 u229 u230 u231 u232 u233 u234 u235 : Value} :
 Code.wp Try.prog read5 (bodyPost Try.prog Try.f17 Q) ⟨#[u0, .slice px nt cx, .slice pp ps.length cp, .pointer (some ⟨bo, 0, none⟩), u4, u5, .pointer (some ⟨br, 0, none⟩), u7, u8, .pointer (some ⟨bl, 0, none⟩), u10, u11, u12, u13, u14, u15, u16, u17, u18, u19, u20, u21, u22, u23, u24, u25, u26, u27, u28, u29, u30, u31, u32, u33, u34, u35, u36, u37, u38, u39, u40, u41, u42, u43, u44, u45, u46, u47, u48, u49, u50, u51, u52, u53, u54, u55, u56, u57, u58, u59, u60, u61, u62, u63, u64, u65, u66, u67, u68, u69, u70, u71, u72, u73, u74, u75, u76, u77, u78, u79, u80, u81, u82, u83, u84, u85, u86, u87, u88, u89, u90, u91, u92, u93, u94, u95, u96, u97, u98, u99, u100, u101, u102, u103, u104, u105, u106, u107, u108, u109, u110, u111, u112, u113, u114, u115, u116, u117, u118, u119, u120, u121, u122, u123, u124, u125, u126, u127, u128, u129, u130, u131, u132, u133, u134, u135, u136, u137, u138, u139, u140, u141, u142, u143, u144, u145, u146, u147, u148, u149, u150, u151, u152, u153, u154, u155, u156, u157, u158, u159, u160, u161, u162, u163, u164, u165, u166, u167, u168, u169, u170, u171, u172, u173, u174, u175, u176, u177, u178, u179, u180, u181, u182, u183, u184, u185, u186, u187, u188, u189, u190, u191, u192, u193, u194, u195, u196, u197, u198, u199, u200, u201, u202, u203, u204, u205, u206, u207, u208, u209, u210, u211, u212, u213, u214, u215, u216, u217, u218, u219, u220, u221, u222, u223, u224, u225, u226, u227, u228, u229, u230, u231, u232, u233, u234, u235], []⟩ wz := by
 have HR := Lib.hid hr
 have HW := Hi (And.intro hw hbr)
 have hwt : ws.length = ts.length := by rw [hws]; unfold tws; rw [List.length_map]
 conv => arg 2; whnf
 refine wp_seq_k (fun KX hKX => ?_)
 have HK13 : RdNext13 W H bl bo br a b c vto vput vm ws f g px pp nt cx cp ps wi KX := by
  intro vt wx u0 u4 u5 u7 u8 u10 u11 u12 u13 u14 u15 u16 u17 u18 u19 u20 u21 u22 u23 u24 u25 u26 u27 u28 u29 u30 u31 u32 u33 u34 u35 u36 u37 u38 u39 u40 u41 u42 u43 u44 u45 u46 u47 u48 u49 u50 u51 u52 u53 u54 u55 u56 u57 u58 u59 u60 u61 u62 u63 u64 u65 u66 u67 u68 u69 u70 u71 u72 u73 u74 u75 u76 u77 u78 u79 u80 u81 u82 u83 u84 u85 u86 u87 u88 u89 u90 u91 u92 u93 u94 u95 u96 u97 u98 u99 u100 u101 u102 u103 u104 u105 u106 u107 u108 u109 u110 u111 u112 u113 u114 u115 u116 u117 u118 u119 u120 u121 u122 u123 u124 u125 u126 u127 u128 u129 u130 u131 u132 u133 u134 u135 u136 u137 u138 u139 u140 u141 u142 u143 u144 u145 u146 u147 u148 u149 u150 u151 u152 u153 u154 u155 u156 u157 u158 u159 u160 u161 u162 u163 u164 u165 u166 u167 u168 u169 u170 u171 u172 u173 u174 u175 u176 u177 u178 u179 u180 u181 u182 u183 u184 u185 u186 u187 u188 u189 u190 u191 u192 u193 u194 u195 u196 u197 u198 u199 u200 u201 u202 u203 u204 u205 u206 u207 u208 u209 u210 u211 u212 u213 u214 u215 u216 u217 u218 u219 u220 u221 u222 u223 u224 u225 u226 u227 u228 u229 u230 u231 u232 u233 u234 u235 hnd h1
  exact hKX _ _ (read_t13 HRW HE hw hbr hwl (by rw [hnt, hwt]) hnd (by rw [hws]; exact tws_len W hcw) hlp hps hpg h1 hf hg he7 he0 he8)
 have HTS := Lib.hid hts
 have HWS := Hi (And.intro hws hcw)
 have HE7 := Lib.hid he7
 have HLT : Hid (ts.length ≤ 200) := Hi (by omega)
 subst hnt
 clear hKX hr hf hg hw hbr hps hpg he7 he0 he8 hts hws hcw hwl
 go_wp2_with fail
 go_loopw [38] (fun t wr => ∃ (ls : List ByteArray) (vt : Value), ls.length ≤ ts.length ∧ t = .int .i64 (ls.length : Nat) ∧ Hid (ls = (ws.take ls.length).map wb ∧ (ws.take ls.length).Nodup ∧ LRep H bl bo br a b c vt vto vput vm ls 0 0 f g [] wi wr)) (fun t _ => ts.length - (intOf t).toNat)
 case atStart => exact ⟨[], vt, by simp, rfl, Lib.hid ⟨by simp, by simp, HR.out⟩⟩
 case round =>
  obtain ⟨ls, vt, hk, rfl, HK⟩ := hrel
  by_cases hlt : ls.length < ts.length
  · obtain ⟨bt, ot, hpx, hrow⟩ := (HTS.out.below (HW.out.1.trans (HK.out.2.2.bel.mono HW.out.1.size))) (by intro h; rw [h] at hlt; simp at hlt)
    subst hpx
    have c0 := hrow ls.length hlt
    have hcw := HWS.out.2 _ (List.getElem_mem hlt)
    have hgt : ws[ls.length]? = some (Cox.nf W (unw ts[ls.length])) := by rw [HWS.out.1]; unfold tws; rw [List.getElem?_map, List.getElem?_eq_getElem hlt]; rfl
    rw [(cw_unw hcw).1] at c0
    have hul := (cw_unw hcw).2
    obtain ⟨l, hl⟩ : ∃ l, unw ts[ls.length] = l := ⟨_, rfl⟩
    rw [hl] at c0 hul hgt
    have WL := Hi (fun w => HRW.out l (by omega) w)
    unfold oval at WL
    obtain ⟨u, hu⟩ : ∃ u, Cox.nf W l = u := ⟨_, rfl⟩
    rw [hu] at hgt WL
    have HGT := Lib.hid hgt
    have k1 : (ls.length : Int) < (ts.length : Int) := by omega
    have k2 : (0 : Int) ≤ (ls.length : Int) := by omega
    have hl200 : ls.length < 200 := by have := HLT.out; omega
    have HLL := Hi (And.intro hlt hl200)
    have do0 : wr.cell? ⟨bo, 0, none⟩ = some (.int .i64 a) := HK.out.2.2.cells.2.2.2.2.1
    have do1 : wr.cell? ⟨bo, 1, none⟩ = some (.int .i64 b) := HK.out.2.2.cells.2.2.2.2.2.1
    have do2 : wr.cell? ⟨bo, 2, none⟩ = some (.int .i64 c) := HK.out.2.2.cells.2.2.2.2.2.2
    obtain ⟨pv, cv, hvt, _⟩ := strsAt_own HK.out.2.2.rT
    subst hvt
    have hpl : place ls (wb u) = zidx (ws.take ls.length) u := (congrArg (fun x => place x (wb u)) HK.out.1).trans (place_wb _ _)
    have IX : Hid (∀ w5, LRep H bl bo br a b c (.slice pv ls.length cv) vto vput vm ls 0 0 f g [] wi w5 → Calls Try.prog 39 #[.slice pv ls.length cv, .string (wb u)] w5 fun e w' => e = .returned (.int .i64 (zidx (ws.take ls.length) u)) ∧ w' = w5) := Hi (fun w5 h5 => by
     obtain ⟨pt', ct', hvt', hst⟩ := strsAt_own h5.rT
     have hpt : pv = pt' := by simp at hvt'; exact hvt'.1
     rw [← hpt] at hst
     have := index_any ls (wb u) pv cv (by omega) w5 hst
     rw [hpl] at this
     exact this)
    clear hpl
    by_cases hm : u ∈ ws.take ls.length
    · have HN : Hid (e = 7) := Hi (HE7.out (.inr (.inl (fun hnd => by
       obtain ⟨h2, h3⟩ := List.getElem?_eq_some_iff.1 HGT.out
       obtain ⟨i, hi, h4⟩ := List.getElem_of_mem hm
       rw [List.length_take] at hi
       rw [List.getElem_take] at h4
       have h5 := List.nodup_iff_pairwise_ne.1 hnd
       rw [List.pairwise_iff_getElem] at h5
       exact h5 i ls.length (by omega) h2 (by omega) (h4.trans h3.symm)))))
      obtain ⟨z, hz⟩ : ∃ z, zidx (ws.take ls.length) u = z := ⟨_, rfl⟩
      have hz0 : (0 : Int) ≤ z := by obtain ⟨i0, _, hi0, _⟩ := zidx_mem hm; rw [← hz, hi0]; omega
      rw [hz] at IX
      clear hrow hlt hgt hcw hl hul hu hm hz hl200
      go_upto_region 10 with (first
       | (go_at_call 38; refine (WL.out _).mono ?_; rintro r w5 ⟨rfl, hb5⟩; have HL5 := Hi (HK.out.2.2.below hb5); have y3 : w5.cell? ⟨bl, 3, none⟩ = some (.slice pv ls.length cv) := HL5.out.cells.1; clear hb5)
       | (go_at_call 39; refine (IX.out _ HL5.out).mono ?_; rintro r w6 ⟨rfl, h6⟩; subst w6))
      obtain ⟨r0, r1, r2, r3, r4, r5, r6, t0, t1, t2, t3, t4, t5, t6⟩ := res_facts HL5.out.res
      clear y3 c0 do0 do1 do2 hz0 k1 k2
      go_wp2_with fail
      refine read_door (e := 7) rfl rfl (set7_at HL5.out.res (.int .i64 0) (.int .i64 0) (.int .i64 0) (.slice none 0 0) (.slice none 0 0) (.slice none 0 0) (.slice none 0 0)) ?_
      have := HE.out.no (by rw [HN.out]; decide) _ (set7_below (HW.out.1.trans (HL5.out.bel.mono HW.out.1.size)) HW.out.2 (.int .i64 0) (.int .i64 0) (.int .i64 0) (.slice none 0 0) (.slice none 0 0) (.slice none 0 0) (.slice none 0 0))
      rw [HN.out] at this
      exact this
    · rw [zidx_not hm] at IX
      have HM := Lib.hid hm
      obtain ⟨i9, hi9, hy0, hy1, hy2⟩ := info_parts info9
      have m1 : ls.length + 1 ≤ maxLen := by unfold maxLen; omega
      have m2 : (ls.length + 1) * 16 ≤ 140737488355328 := by omega
      clear hrow hlt hgt hcw hl hul hu hm hl200
      go_upto_region 12 with (first
       | (go_at_call 38; refine (WL.out _).mono ?_; rintro r w5 ⟨rfl, hb5⟩; have HL5 := Hi (HK.out.2.2.below hb5); have y3 : w5.cell? ⟨bl, 3, none⟩ = some (.slice pv ls.length cv) := HL5.out.cells.1; have HOW := Hi (owns_keep (w' := w5.alloc (.cells #[.string (wb u)] 9)) HL5.out.rT (fun q hq => Below.heap_alloc _ _ _ (owns_lt HL5.out.rT hq).1)); have HHS : Hid (H ≤ (w5.alloc (.cells #[.string (wb u)] 9)).heap.size) := Hi (by have h1 := HL5.out.big.2.2.2.1; rw [World.size_alloc]; omega); clear hb5)
       | (go_at_call 39; refine (IX.out _ HL5.out).mono ?_; rintro r w6 ⟨rfl, h6⟩; subst w6)
       | (at_builtin; refine wpList_append_lies _ rfl (.tmp 52) (.tmp 54) 24 rfl H 9 i9 _ 1 16 Try.underlying24 hi9 hy0 hy1 hy2 rfl (by decide) (.slice pv ls.length cv) ls.length (ls.map .string) rfl HOW.out ⟨w5.heap.size, 0, none⟩ 1 1 [.string (wb u)] rfl rfl (World.news_of_block (str_new _ _ _ _ rfl)) (by intro v hv; simp at hv; subst hv; rfl) (by decide) m1 m2 HHS.out _ rfl ?_; intro g9 cap9 w9 hown9 hgr9 hat9 hlt9; have HF := Hi (HL5.out.pushT hown9 hgr9 hat9); have hb9 := grown_keep hgr9 (q := bl) (Array.getElem?_eq_some_iff.1 HL5.out.box).1 (fun e => by have h1 := (owns_lt HL5.out.rT e).2; have h2 := HL5.out.big; omega); have z1 : w9.cell? ⟨bl, 3, none⟩ = some (.slice pv ls.length cv) := (by rw [cell_of (hb9.trans HL5.out.box)]; rfl); have z2 := free_of (hb9.trans HL5.out.box) 3; clear hown9 hgr9 hat9 hlt9 hb9))
      generalize w9.setCell ⟨bl, 3, none⟩ (.slice (some ⟨g9, 0, none⟩) (ls.length + 1) cap9) = wn at *
      clear y3 z1 z2 c0 do0 do1 do2 HOW HHS
      go_wp2_with fail
      go_roundw
      case rel =>
       have htk : ws.take (ls.length + 1) = ws.take ls.length ++ [u] := by
        obtain ⟨h1, h2⟩ := List.getElem?_eq_some_iff.1 HGT.out
        rw [List.take_succ_eq_append_getElem h1, h2]
       refine ⟨ls ++ [wb u], _, by have := HLL.out.1; simp; omega, by simp, Lib.hid ⟨?_, ?_, HF.out⟩⟩
       · rw [List.length_append, List.length_singleton, htk, List.map_append, ← HK.out.1]; rfl
       · rw [List.length_append, List.length_singleton, htk, List.nodup_append]
         refine ⟨HK.out.2.1, by simp, ?_⟩
         intro x hx y hy e
         simp at hy
         subst hy
         subst e
         exact HM.out hx
      case measure =>
       have := HLL.out.1
       simp [intOf]; omega
  · have hke : ls.length = ts.length := by omega
    have htk : ws.take ls.length = ws := by rw [hke, ← hwt, List.take_length]
    have HK2 : Hid (ws.Nodup ∧ LRep H bl bo br a b c vt vto vput vm (ws.map wb) 0 0 f g [] wi wr) := Hi (by
     have h1 := HK.out
     rw [htk] at h1
     refine ⟨h1.2.1, ?_⟩
     have h2 := h1.2.2
     rw [h1.1] at h2
     exact h2)
    rw [hke]
    clear htk hlt HK hk hke
    have k1 : ¬ (ts.length : Int) < (ts.length : Int) := by omega
    go_wp2_with fail
    exact HK13 vt wr _ _ _ _ _ _ _ _ _ _ _ _ _ _ _ _ _ _ _ _ _ _ _ _ _ _ _ _ _ _ _ _ _ _ _ _ _ _ _ _ _ _ _ _ _ _ _ _ _ _ _ _ _ _ _ _ _ _ _ _ _ _ _ _ _ _ _ _ _ _ _ _ _ _ _ _ _ _ _ _ _ _ _ _ _ _ _ _ _ _ _ _ _ _ _ _ _ _ _ _ _ _ _ _ _ _ _ _ _ _ _ _ _ _ _ _ _ _ _ _ _ _ _ _ _ _ _ _ _ _ _ _ _ _ _ _ _ _ _ _ _ _ _ _ _ _ _ _ _ _ _ _ _ _ _ _ _ _ _ _ _ _ _ _ _ _ _ _ _ _ _ _ _ _ _ _ _ _ _ _ _ _ _ _ _ _ _ _ _ _ _ _ _ _ _ _ _ _ _ _ _ _ _ _ _ _ _ _ _ _ _ _ _ _ _ _ _ _ _ _ _ _ _ _ _ _ _ _ _ _ _ HK2.out.1 HK2.out.2
theorem read_t4 {K : Type} [Cox.OR K] {W : Cox.Tri K} {Q : Ending → World → Prop} {bo br nt cx : Nat} {px : Option Addr} {a b c : Int} {ts : List ByteArray} {ws : List (List (Fin 3))} {ps : List PairD} {w0 wz : World} {e : Int} {pp : Option Addr} {cp : Nat}
 (HRW : Hid (RW W a b c)) (HE : Hid (RdEnd W a b c br ws (glu (eds W ps)) e w0 Q)) (hw : Below w0.heap.size w0 wz) (hbr : w0.heap.size ≤ br) (hwl : ws.length ≤ 200) (hnt : nt = ts.length) (hts : StrsAt w0 px ts) (hws : ws = tws W ts) (hcw : ∀ s, s ∈ ts → cw s = 0) (hlp : ps.length ≤ 600) (hps : PairsAt w0 pp ps) (hpg : ∀ q, q ∈ ps → cpair q = 0)
 (ho : wz.heap[bo]? = some (.cells #[.int .i64 a, .int .i64 b, .int .i64 c] 23 (0, 0))) (hres : wz.heap[br]? = some (.cells #[.int .i64 0, .int .i64 0, .int .i64 0, .slice none 0 0, .slice none 0 0, .slice none 0 0, .slice none 0 0] 54 (0, 0)))
 (he7 : Apart W ws → e = 7) (he0 : ¬ Apart W ws → PairSeq W ws [] (eds W ps) → e = 0) (he8 : ¬ Apart W ws → ¬ PairSeq W ws [] (eds W ps) → e = 8) {u0 u4 u5 u7 u8 u9 u10 u11 u12 u13 u14 u15 u16 u17 u18 u19 u20 u21 u22 u23 u24 u25 u26 u27 u28 u29 u30 u31 u32 u33 u34 u35 u36 u37 u38 u39 u40 u41 u42 u43 u44 u45 u46 u47 u48 u49 u50 u51 u52 u53 u54 u55 u56 u57 u58 u59 u60 u61 u62 u63 u64 u65 u66 u67 u68 u69 u70 u71 u72 u73 u74 u75 u76 u77 u78 u79 u80 u81 u82 u83 u84 u85 u86 u87 u88 u89 u90 u91 u92 u93 u94 u95 u96 u97 u98 u99 u100 u101 u102 u103 u104 u105 u106 u107 u108 u109 u110 u111 u112 u113 u114 u115 u116 u117 u118 u119 u120 u121 u122 u123 u124 u125 u126 u127 u128 u129 u130 u131 u132 u133 u134 u135 u136 u137 u138 u139 u140 u141 u142 u143 u144 u145 u146 u147 u148 u149 u150 u151 u152 u153 u154 u155 u156 u157 u158 u159 u160 u161 u162 u163 u164 u165 u166 u167 u168 u169 u170 u171 u172 u173 u174 u175 u176 u177 u178 u179 u180 u181 u182 u183 u184 u185 u186 u187 u188 u189 u190 u191 u192 u193 u194 u195 u196 u197 u198 u199 u200 u201 u202 u203 u204 u205 u206 u207 u208 u209 u210 u211 u212 u213 u214 u215 u216 u217 u218 u219 u220 u221 u222 u223 u224 u225 u226 u227 u228 u229 u230 u231 u232 u233 u234 u235 : Value} :
 Code.wp Try.prog read4 (bodyPost Try.prog Try.f17 Q) ⟨#[u0, .slice px nt cx, .slice pp ps.length cp, .pointer (some ⟨bo, 0, none⟩), u4, u5, .pointer (some ⟨br, 0, none⟩), u7, u8, u9, u10, u11, u12, u13, u14, u15, u16, u17, u18, u19, u20, u21, u22, u23, u24, u25, u26, u27, u28, u29, u30, u31, u32, u33, u34, u35, u36, u37, u38, u39, u40, u41, u42, u43, u44, u45, u46, u47, u48, u49, u50, u51, u52, u53, u54, u55, u56, u57, u58, u59, u60, u61, u62, u63, u64, u65, u66, u67, u68, u69, u70, u71, u72, u73, u74, u75, u76, u77, u78, u79, u80, u81, u82, u83, u84, u85, u86, u87, u88, u89, u90, u91, u92, u93, u94, u95, u96, u97, u98, u99, u100, u101, u102, u103, u104, u105, u106, u107, u108, u109, u110, u111, u112, u113, u114, u115, u116, u117, u118, u119, u120, u121, u122, u123, u124, u125, u126, u127, u128, u129, u130, u131, u132, u133, u134, u135, u136, u137, u138, u139, u140, u141, u142, u143, u144, u145, u146, u147, u148, u149, u150, u151, u152, u153, u154, u155, u156, u157, u158, u159, u160, u161, u162, u163, u164, u165, u166, u167, u168, u169, u170, u171, u172, u173, u174, u175, u176, u177, u178, u179, u180, u181, u182, u183, u184, u185, u186, u187, u188, u189, u190, u191, u192, u193, u194, u195, u196, u197, u198, u199, u200, u201, u202, u203, u204, u205, u206, u207, u208, u209, u210, u211, u212, u213, u214, u215, u216, u217, u218, u219, u220, u221, u222, u223, u224, u225, u226, u227, u228, u229, u230, u231, u232, u233, u234, u235], []⟩ wz := by
 conv => arg 2; whnf
 refine wp_seq_k (fun KX hKX => ?_)
 have HK5 : Hid (∀ bl H, RdNext5 W H bl bo br a b c (.slice none 0 0) (.slice none 0 0) (.slice none 0 0) (.slice none 0 0) (nbF W ws) (fun _ _ => 0) px pp nt cx cp ps wz KX) := Hi (by
  intro bl H wx u0 u4 u5 u7 u8 u10 u11 u12 u13 u14 u15 u16 u17 u18 u19 u20 u21 u22 u23 u24 u25 u26 u27 u28 u29 u30 u31 u32 u33 u34 u35 u36 u37 u38 u39 u40 u41 u42 u43 u44 u45 u46 u47 u48 u49 u50 u51 u52 u53 u54 u55 u56 u57 u58 u59 u60 u61 u62 u63 u64 u65 u66 u67 u68 u69 u70 u71 u72 u73 u74 u75 u76 u77 u78 u79 u80 u81 u82 u83 u84 u85 u86 u87 u88 u89 u90 u91 u92 u93 u94 u95 u96 u97 u98 u99 u100 u101 u102 u103 u104 u105 u106 u107 u108 u109 u110 u111 u112 u113 u114 u115 u116 u117 u118 u119 u120 u121 u122 u123 u124 u125 u126 u127 u128 u129 u130 u131 u132 u133 u134 u135 u136 u137 u138 u139 u140 u141 u142 u143 u144 u145 u146 u147 u148 u149 u150 u151 u152 u153 u154 u155 u156 u157 u158 u159 u160 u161 u162 u163 u164 u165 u166 u167 u168 u169 u170 u171 u172 u173 u174 u175 u176 u177 u178 u179 u180 u181 u182 u183 u184 u185 u186 u187 u188 u189 u190 u191 u192 u193 u194 u195 u196 u197 u198 u199 u200 u201 u202 u203 u204 u205 u206 u207 u208 u209 u210 u211 u212 u213 u214 u215 u216 u217 u218 u219 u220 u221 u222 u223 u224 u225 u226 u227 u228 u229 u230 u231 u232 u233 u234 u235 h1
  exact hKX _ _ (read_t5 HRW HE hw hbr hwl hnt hts hws hcw hlp hps hpg h1 (nbF_at W ws) (fun _ _ => rfl) he7 he0 he8))
 have HO := Hi (And.intro ho hres)
 have d0 : wz.cell? ⟨bo, 0, none⟩ = some (.int .i64 a) := by rw [cell_of ho]; rfl
 have d1 : wz.cell? ⟨bo, 1, none⟩ = some (.int .i64 b) := by rw [cell_of ho]; rfl
 have d2 : wz.cell? ⟨bo, 2, none⟩ = some (.int .i64 c) := by rw [cell_of ho]; rfl
 have hlo := Hi (And.intro (Array.getElem?_eq_some_iff.1 ho).1 (Array.getElem?_eq_some_iff.1 hres).1)
 have HB0 : Hid (w0.heap.size ≤ wz.heap.size) := Lib.hid hw.size
 subst hnt
 clear hKX hw hbr hps hpg he7 he0 he8 hts hws hcw ho hres
 go_wp2_with fail
 refine HK5.out wz.heap.size (wz.heap.size + 1) _ _ _ _ _ _ _ _ _ _ _ _ _ _ _ _ _ _ _ _ _ _ _ _ _ _ _ _ _ _ _ _ _ _ _ _ _ _ _ _ _ _ _ _ _ _ _ _ _ _ _ _ _ _ _ _ _ _ _ _ _ _ _ _ _ _ _ _ _ _ _ _ _ _ _ _ _ _ _ _ _ _ _ _ _ _ _ _ _ _ _ _ _ _ _ _ _ _ _ _ _ _ _ _ _ _ _ _ _ _ _ _ _ _ _ _ _ _ _ _ _ _ _ _ _ _ _ _ _ _ _ _ _ _ _ _ _ _ _ _ _ _ _ _ _ _ _ _ _ _ _ _ _ _ _ _ _ _ _ _ _ _ _ _ _ _ _ _ _ _ _ _ _ _ _ _ _ _ _ _ _ _ _ _ _ _ _ _ _ _ _ _ _ _ _ _ _ _ _ _ _ _ _ _ _ _ _ _ _ _ _ _ _ _ _ _ _ _ _ _ _ _ _ _ _ _ _ _ _ _ _ _ ?_
 have hb := (Below.refl wz.heap.size wz).alloc (Nat.le_refl _) (.cells #[.int .i64 a, .int .i64 b, .int .i64 c, .slice none 0 0, .slice none 0 0, .slice none 0 0, .slice none 0 0] 54)
 exact ⟨str_new _ _ _ _ rfl, (hb.block _ hlo.out.1).trans HO.out.1, (hb.block _ hlo.out.2).trans HO.out.2, ⟨rfl, .inl ⟨rfl, rfl⟩⟩, ⟨by simp [row3], .inl ⟨rfl, rfl⟩⟩, ⟨by simp [row3], .inl ⟨rfl, rfl⟩⟩, ⟨rfl, .inl ⟨rfl, rfl⟩⟩, fun q h => (by cases h), fun q h => (by cases h), hb, ⟨by omega, by have := hlo.out.1; omega, by have := hlo.out.2; omega, by simp, by have := hlo.out.2; omega, by omega⟩⟩
def RdPost {K : Type} [Cox.OR K] (W : Cox.Tri K) (a b c : Int) (ts : List ByteArray) (ps : List PairD) (w : World) (r : Ending) (w' : World) : Prop :=
 Below w.heap.size w w' ∧ ((nlErr W a b c ts ps ≠ 0 ∧ r = .returned (.tuple #[.agg #[.int .i64 0, .int .i64 0, .int .i64 0, .slice none 0 0, .slice none 0 0, .slice none 0 0, .slice none 0 0], .int .i64 (nlErr W a b c ts ps)])) ∨
  (nlErr W a b c ts ps = 0 ∧ ∃ pt ct pto cto p3 n3 c3 p4 n4 c4 f, r = .returned (.tuple #[lval a b c (.slice pt (tws W ts).length ct) pto (tws W ts).length cto (.slice p3 n3 c3) (.slice p4 n4 c4), .int .i64 0]) ∧ StrsAt w' pt ((tws W ts).map wb) ∧ TosAt w' pto (tws W ts).length f ∧ ∀ t (h : t < (tws W ts).length) (i : Fin 3), f t i.val = zidx (tws W ts) (mv W (glu (eds W ps)) (tws W ts)[t] i)))
theorem read_any {K : Type} [Cox.OR K] (W : Cox.Tri K) (a b c : Int) (hrw : chk a b c = 0 → RW W a b c) (ts : List ByteArray) (ps : List PairD) (pt pp : Option Addr) (ct cp : Nat) (w : World) (hts : StrsAt w pt ts) (hps : PairsAt w pp ps)
 (hlt : ts.length ≤ maxLen) (hlp : ps.length ≤ maxLen) (hs : ∀ s, s ∈ ts → s.size ≤ maxLen) (hs2 : ∀ p, p ∈ ps → p.1.tile.size ≤ maxLen ∧ p.2.tile.size ≤ maxLen) :
 Calls Try.prog 17 #[oval a b c, .slice pt ts.length ct, .slice pp ps.length cp] w (RdPost W a b c ts ps w) := by
 obtain ⟨Q, hQ⟩ : ∃ Q : Ending → World → Prop, Q = RdPost W a b c ts ps w := ⟨_, rfl⟩
 rw [← hQ]
 have hb0 : Below w.heap.size w ((w.alloc (.cells #[.int .i64 a, .int .i64 b, .int .i64 c] 23)).alloc (.cells #[.int .i64 0, .int .i64 0, .int .i64 0, .slice none 0 0, .slice none 0 0, .slice none 0 0, .slice none 0 0] 54)) := ((Below.refl _ _).alloc (Nat.le_refl _) _).alloc (by simp) _
 have hc0 : ((w.alloc (.cells #[.int .i64 a, .int .i64 b, .int .i64 c] 23)).alloc (.cells #[.int .i64 0, .int .i64 0, .int .i64 0, .slice none 0 0, .slice none 0 0, .slice none 0 0, .slice none 0 0] 54)).heap[w.heap.size]? = some (.cells #[.int .i64 a, .int .i64 b, .int .i64 c] 23 (0, 0)) := (Below.heap_alloc _ _ _ (by simp)).trans (str_new _ _ _ _ rfl)
 have hc1 : ((w.alloc (.cells #[.int .i64 a, .int .i64 b, .int .i64 c] 23)).alloc (.cells #[.int .i64 0, .int .i64 0, .int .i64 0, .slice none 0 0, .slice none 0 0, .slice none 0 0, .slice none 0 0] 54)).heap[w.heap.size + 1]? = some (.cells #[.int .i64 0, .int .i64 0, .int .i64 0, .slice none 0 0, .slice none 0 0, .slice none 0 0, .slice none 0 0] 54 (0, 0)) := str_new _ _ _ _ (by simp)
 have HCK := Hi (fun wx (hb : Below w.heap.size w wx) => checked_any a b c ts ps pt pp ct cp wx (hts.below hb) (hps.below hb) hlt hlp hs hs2)
 have HTP := Hi (And.intro hts (And.intro hps hrw))
 have HQ := Lib.hid hQ
 unfold oval at *
 clear hts hps hs hs2 hlt hlp hrw hQ
 go_enter Try.func17, Try.ntmps17
 refine wp_seq_k (fun KX0 hKX0 => ?_)
 have HKX0 := Lib.hid hKX0
 clear hKX0
 go_wp2_with fail
 refine HKX0.out _ _ ?_
 clear HKX0
 generalize (w.alloc (.cells #[.int .i64 a, .int .i64 b, .int .i64 c] 23)).alloc (.cells #[.int .i64 0, .int .i64 0, .int .i64 0, .slice none 0 0, .slice none 0 0, .slice none 0 0, .slice none 0 0] 54) = wb0 at *
 have HB := Hi (And.intro hb0 (And.intro hc0 hc1))
 have k0 : wb0.cell? ⟨w.heap.size, 0, none⟩ = some (.int .i64 a) := by rw [cell_of hc0]; rfl
 have k1 : wb0.cell? ⟨w.heap.size, 1, none⟩ = some (.int .i64 b) := by rw [cell_of hc0]; rfl
 have k2 : wb0.cell? ⟨w.heap.size, 2, none⟩ = some (.int .i64 c) := by rw [cell_of hc0]; rfl
 clear hb0 hc0 hc1
 by_cases hform : form a b c ts ps = 0
 case neg =>
  have HN : Hid (nlErr W a b c ts ps = form a b c ts ps ∧ nlErr W a b c ts ps ≠ 0) := Lib.hid ⟨nlErr_form W hform, by rw [nlErr_form W hform]; exact hform⟩
  have hf0 : (form a b c ts ps == 0) = false := by simpa using hform
  generalize form a b c ts ps = e0 at *
  go_upto_region 3 with (go_at_call 37; refine (HCK.out _ HB.out.1).mono ?_; rintro r w5 ⟨rfl, hb5⟩; have HB5 := Lib.hid hb5; clear hb5)
  have hres5 := (HB5.out.block _ (Array.getElem?_eq_some_iff.1 HB.out.2.2).1).trans HB.out.2.2
  have HRES := Lib.hid hres5
  obtain ⟨r0, r1, r2, r3, r4, r5, r6, t0, t1, t2, t3, t4, t5, t6⟩ := res_facts hres5
  clear hres5 k0 k1 k2
  go_wp2_with fail
  refine read_door (e := e0) rfl rfl (set7_at HRES.out (.int .i64 0) (.int .i64 0) (.int .i64 0) (.slice none 0 0) (.slice none 0 0) (.slice none 0 0) (.slice none 0 0)) ?_
  rw [HQ.out]
  refine ⟨set7_below (HB.out.1.trans (HB5.out.mono HB.out.1.size)) (by omega) (.int .i64 0) (.int .i64 0) (.int .i64 0) (.slice none 0 0) (.slice none 0 0) (.slice none 0 0) (.slice none 0 0), .inl ⟨HN.out.2, ?_⟩⟩
  rw [HN.out.1]
 case pos =>
  rw [hform] at HCK
  have hgood := form_good hform
  have htl : (tws W ts).length = ts.length := tws_length W ts
  have HE : Hid (RdEnd W a b c (w.heap.size + 1) (tws W ts) (glu (eds W ps)) (nlErr W a b c ts ps) w Q) := Hi (by
   constructor
   · intro hne w' hb
     rw [HQ.out]
     exact ⟨hb, .inl ⟨hne, rfl⟩⟩
   · intro he pt ct pto cto p3 n3 c3 p4 n4 c4 f w' h1 h2 h3 hb
     rw [HQ.out]
     exact ⟨hb, .inr ⟨he, pt, ct, pto, cto, p3, n3, c3, p4, n4, c4, f, rfl, h1, h2, h3⟩⟩)
  have HRW := Hi (HTP.out.2.2 hgood.1)
  refine wp_seq_k (fun KX hKX => ?_)
  have HK4 : Hid (RdNext4 w.heap.size (w.heap.size + 1) pt pp ts.length ct cp ps wb0 KX) := Hi (by
   intro wx u0 u4 u5 u7 u8 u9 u10 u11 u12 u13 u14 u15 u16 u17 u18 u19 u20 u21 u22 u23 u24 u25 u26 u27 u28 u29 u30 u31 u32 u33 u34 u35 u36 u37 u38 u39 u40 u41 u42 u43 u44 u45 u46 u47 u48 u49 u50 u51 u52 u53 u54 u55 u56 u57 u58 u59 u60 u61 u62 u63 u64 u65 u66 u67 u68 u69 u70 u71 u72 u73 u74 u75 u76 u77 u78 u79 u80 u81 u82 u83 u84 u85 u86 u87 u88 u89 u90 u91 u92 u93 u94 u95 u96 u97 u98 u99 u100 u101 u102 u103 u104 u105 u106 u107 u108 u109 u110 u111 u112 u113 u114 u115 u116 u117 u118 u119 u120 u121 u122 u123 u124 u125 u126 u127 u128 u129 u130 u131 u132 u133 u134 u135 u136 u137 u138 u139 u140 u141 u142 u143 u144 u145 u146 u147 u148 u149 u150 u151 u152 u153 u154 u155 u156 u157 u158 u159 u160 u161 u162 u163 u164 u165 u166 u167 u168 u169 u170 u171 u172 u173 u174 u175 u176 u177 u178 u179 u180 u181 u182 u183 u184 u185 u186 u187 u188 u189 u190 u191 u192 u193 u194 u195 u196 u197 u198 u199 u200 u201 u202 u203 u204 u205 u206 u207 u208 u209 u210 u211 u212 u213 u214 u215 u216 u217 u218 u219 u220 u221 u222 u223 u224 u225 u226 u227 u228 u229 u230 u231 u232 u233 u234 u235 h1
   refine hKX _ _ (read_t4 HRW HE (HB.out.1.trans (h1.mono HB.out.1.size)) (by omega) (by rw [htl]; exact hgood.2.1) rfl HTP.out.1 rfl hgood.2.2.2.1 hgood.2.2.1 HTP.out.2.1 hgood.2.2.2.2 ((h1.block _ (Array.getElem?_eq_some_iff.1 HB.out.2.1).1).trans HB.out.2.1) ((h1.block _ (Array.getElem?_eq_some_iff.1 HB.out.2.2).1).trans HB.out.2.2) (fun h => nlErr_apart W hform h) (fun h1 h2 => nlErr_ok W hform h1 h2) (fun h1 h2 => nlErr_pair W hform h1 h2)))
  clear hKX hgood htl
  go_wp2_with (go_at_call 37; refine (HCK.out _ HB.out.1).mono ?_; rintro r w5 ⟨rfl, hb5⟩; have HB5 := Lib.hid hb5; clear hb5)
  exact HK4.out w5 _ _ _ _ _ _ _ _ _ _ _ _ _ _ _ _ _ _ _ _ _ _ _ _ _ _ _ _ _ _ _ _ _ _ _ _ _ _ _ _ _ _ _ _ _ _ _ _ _ _ _ _ _ _ _ _ _ _ _ _ _ _ _ _ _ _ _ _ _ _ _ _ _ _ _ _ _ _ _ _ _ _ _ _ _ _ _ _ _ _ _ _ _ _ _ _ _ _ _ _ _ _ _ _ _ _ _ _ _ _ _ _ _ _ _ _ _ _ _ _ _ _ _ _ _ _ _ _ _ _ _ _ _ _ _ _ _ _ _ _ _ _ _ _ _ _ _ _ _ _ _ _ _ _ _ _ _ _ _ _ _ _ _ _ _ _ _ _ _ _ _ _ _ _ _ _ _ _ _ _ _ _ _ _ _ _ _ _ _ _ _ _ _ _ _ _ _ _ _ _ _ _ _ _ _ _ _ _ _ _ _ _ _ _ _ _ _ _ _ _ _ _ _ _ _ _ _ _ _ _ _ _ HB5.out
end Go.Proofs.Ytkndmibmmoikbaa
namespace Go.Proofs.Ytkndmibmmoikbaa
open Go.RowKit
open Cox (Tl)
theorem info60 : Option.map (fun i => (i.zero, i.size, i.bytes)) (Try.prog.info? 60) = some (some (.agg #[.int .i64 0, .int .i64 0, .int .i64 0, .int .i64 0]), 4, 32) := by kernel_rfl
def cnt (ws : List (List (Fin 3))) (L : List CornW) (t k : Nat) : Nat := L.count (ws.getD t [], (k : Int))
def mets (ws : List (List (Fin 3))) (n : Nat) (L : List CornW) : List Value := (List.range (n * 4)).map fun q => .int .i64 ((cnt ws L (q / 4) (q % 4) : Nat) : Int)
theorem mets_len (ws : List (List (Fin 3))) (n : Nat) (L : List CornW) : (mets ws n L).length = n * 4 := by unfold mets; simp
theorem mets_get {ws : List (List (Fin 3))} {n : Nat} {L : List CornW} {q : Nat} (h : q < n * 4) : (mets ws n L)[q]? = some (.int .i64 ((cnt ws L (q / 4) (q % 4) : Nat) : Int)) := by
 unfold mets
 rw [List.getElem?_map, List.getElem?_range h]; rfl
theorem mets_at {ws : List (List (Fin 3))} {n : Nat} {L : List CornW} {t k : Nat} (ht : t < n) (hk : k < 4) : (mets ws n L)[t * 4 + k]? = some (.int .i64 ((cnt ws L t k : Nat) : Int)) := by
 rw [mets_get (by omega)]
 have h1 : (t * 4 + k) / 4 = t := by omega
 have h2 : (t * 4 + k) % 4 = k := by omega
 rw [h1, h2]
theorem mets_nil (ws : List (List (Fin 3))) (n : Nat) : (madeCells #[.int .i64 0, .int .i64 0, .int .i64 0, .int .i64 0] (n * 4)) = (mets ws n []).toArray := by
 refine Array.ext (by rw [size_madeCells]; simp [mets_len]) fun q h1 h2 => ?_
 have h3 : q < n * 4 := by rw [size_madeCells] at h1; exact h1
 have h4 := mets_get (ws := ws) (L := []) h3
 rw [List.getElem?_eq_getElem (by rw [mets_len]; exact h3)] at h4
 refine Eq.trans ?_ (Option.some.inj h4).symm
 unfold madeCells cnt
 have h5 : q % 4 < 4 := Nat.mod_lt _ (by decide)
 simp
 generalize q % 4 = r at *
 have : r = 0 ∨ r = 1 ∨ r = 2 ∨ r = 3 := by omega
 rcases this with rfl | rfl | rfl | rfl <;> rfl
theorem cnt_snoc {ws : List (List (Fin 3))} (hnd : ws.Nodup) {L : List CornW} {t k : Nat} (ht : t < ws.length) {t' k' : Nat} (ht' : t' < ws.length) : cnt ws (L ++ [(ws[t], (k : Int))]) t' k' = cnt ws L t' k' + if t' = t ∧ k' = k then 1 else 0 := by
 unfold cnt
 rw [List.count_append, List.count_singleton]
 congr 1
 rw [List.getD_eq_getElem?_getD, List.getElem?_eq_getElem ht', Option.getD_some]
 by_cases e : t' = t ∧ k' = k
 · rw [if_pos e]
   obtain ⟨rfl, rfl⟩ := e
   simp
 · rw [if_neg e, if_neg]
   intro h
   have h := beq_iff_eq.1 h
   rw [Prod.mk.injEq] at h
   have h5 := List.nodup_iff_pairwise_ne.1 hnd
   rw [List.pairwise_iff_getElem] at h5
   refine e ⟨?_, by omega⟩
   rcases Nat.lt_trichotomy t' t with hl | hl | hl
   · exact (h5 t' t ht' ht hl h.1.symm).elim
   · exact hl
   · exact (h5 t t' ht ht' hl h.1).elim
theorem mets_set {ws : List (List (Fin 3))} (hnd : ws.Nodup) {L : List CornW} {t k : Nat} (ht : t < ws.length) (hk : k < 4) : (mets ws ws.length L).set (t * 4 + k) (.int .i64 (((cnt ws L t k : Nat) : Int) + 1)) = mets ws ws.length (L ++ [(ws[t], (k : Int))]) := by
 refine List.ext_getElem? fun q => ?_
 rw [List.getElem?_set]
 by_cases e : t * 4 + k = q
 · subst e
   rw [if_pos rfl, if_pos (by rw [mets_len]; omega), mets_at ht hk, cnt_snoc hnd ht ht, if_pos ⟨rfl, rfl⟩]
   simp
 · rw [if_neg e]
   by_cases hq : q < ws.length * 4
   · rw [mets_get hq, mets_get hq, cnt_snoc hnd ht (by omega), if_neg (by omega)]
     simp
   · rw [List.getElem?_eq_none (by rw [mets_len]; omega), List.getElem?_eq_none (by rw [mets_len]; omega)]
def allc (ws : List (List (Fin 3))) : List CornW := ws.flatMap fun u => [(u, 1), (u, 2), (u, 3)]
theorem allc_mem {ws : List (List (Fin 3))} {x : CornW} : x ∈ allc ws ↔ x.1 ∈ ws ∧ (x.2 = 1 ∨ x.2 = 2 ∨ x.2 = 3) := by
 unfold allc
 rw [List.mem_flatMap]
 constructor
 · rintro ⟨u, hu, h⟩
   simp at h
   rcases h with rfl | rfl | rfl <;> exact ⟨hu, by simp⟩
 · rintro ⟨h1, h2⟩
   refine ⟨x.1, h1, ?_⟩
   obtain ⟨u, m⟩ := x
   simp at h2 ⊢
   exact h2
theorem allc_len (ws : List (List (Fin 3))) : (allc ws).length = 3 * ws.length := by
 unfold allc
 induction ws with
 | nil => rfl
 | cons u l ih => rw [List.flatMap_cons, List.length_append, ih]; simp; omega
theorem allc_nodup {ws : List (List (Fin 3))} (hnd : ws.Nodup) : (allc ws).Nodup := by
 induction ws with
 | nil => simp [allc]
 | cons u l ih =>
  rw [List.nodup_cons] at hnd
  have : allc (u :: l) = [(u, 1), (u, 2), (u, 3)] ++ allc l := rfl
  rw [this, List.nodup_append]
  refine ⟨by simp, ih hnd.2, ?_⟩
  intro x hx y hy e
  subst e
  have h1 := (allc_mem.1 hy).1
  simp at hx
  rcases hx with rfl | rfl | rfl <;> exact hnd.1 h1
theorem met_once {ws : List (List (Fin 3))} (hnd : ws.Nodup) {L : List CornW} (hL : ∀ x, x ∈ L → x.1 ∈ ws ∧ (x.2 = 1 ∨ x.2 = 2 ∨ x.2 = 3)) :
 (∀ t, t < ws.length → cnt ws L t 1 = 1 ∧ cnt ws L t 2 = 1 ∧ cnt ws L t 3 = 1) ↔ L.Nodup ∧ L.length = 3 * ws.length := by
 have hall : ∀ x, x ∈ L → x ∈ allc ws := fun x hx => allc_mem.2 (hL x hx)
 constructor
 · intro h
   have hc : ∀ x, x ∈ allc ws → L.count x = 1 := by
    intro x hx
    obtain ⟨h1, h2⟩ := allc_mem.1 hx
    obtain ⟨t, ht, he⟩ := List.getElem_of_mem h1
    have h3 := h t ht
    unfold cnt at h3
    rw [List.getD_eq_getElem?_getD, List.getElem?_eq_getElem ht, Option.getD_some, he] at h3
    obtain ⟨u, m⟩ := x
    rcases h2 with h2 | h2 | h2
    · simp at h2; subst h2; exact h3.1
    · simp at h2; subst h2; exact h3.2.1
    · simp at h2; subst h2; exact h3.2.2
   have hn : L.Nodup := by
    rw [List.nodup_iff_count]
    intro x
    by_cases hx : x ∈ L
    · rw [hc x (hall x hx)]; exact Nat.le_refl _
    · rw [List.count_eq_zero_of_not_mem hx]; omega
   refine ⟨hn, ?_⟩
   have h1 := nodup_len hn hall
   have h2 := nodup_len (l1 := allc ws) (l2 := L) (allc_nodup hnd) (fun x hx => List.count_pos_iff.1 (by rw [hc x hx]; decide))
   rw [allc_len] at h1 h2
   omega
 · rintro ⟨hn, hlen⟩
   have hin : ∀ x, x ∈ allc ws → x ∈ L := by
    intro x hx
    refine Decidable.byContradiction fun hx2 => ?_
    have h1 := nodup_len (l1 := x :: L) (l2 := allc ws) (List.nodup_cons.2 ⟨hx2, hn⟩) (fun z hz => by
     rcases List.mem_cons.1 hz with rfl | hz
     · exact hx
     · exact hall z hz)
    rw [allc_len] at h1
    simp at h1
    omega
   intro t ht
   have hu : ws.getD t [] ∈ ws := by
    rw [List.getD_eq_getElem?_getD, List.getElem?_eq_getElem ht, Option.getD_some]
    exact List.getElem_mem ht
   unfold cnt
   have hc : ∀ x, x ∈ allc ws → L.count x = 1 := by
    intro x hx
    have h1 := List.nodup_iff_count.1 hn x
    have h2 := List.count_pos_iff.2 (hin x hx)
    omega
   exact ⟨hc _ (allc_mem.2 ⟨hu, .inl rfl⟩), hc _ (allc_mem.2 ⟨hu, .inr (.inl rfl)⟩), hc _ (allc_mem.2 ⟨hu, .inr (.inr rfl)⟩)⟩
theorem cnt_le (ws : List (List (Fin 3))) (L : List CornW) (t k : Nat) : cnt ws L t k ≤ L.length := List.count_le_length
end Go.Proofs.Ytkndmibmmoikbaa
namespace Go.Proofs.Ytkndmibmmoikbaa
open Go.RowKit
open Cox (Tl)
noncomputable def rfits17 : Code := (Try.f8.body.bind (fromR 17)).getD .skip
noncomputable def rfits5 : Code := (Try.f8.body.bind (fromR 5)).getD .skip
theorem met_cell {w : World} {mt n : Nat} {ws : List (List (Fin 3))} {L : List CornW} (h : w.heap[mt]? = some (.cells (mets ws n L).toArray 60 (0, 0))) {t k : Nat} (ht : t < n) (hk : k < 4) : w.cell? ⟨mt, t * 4 + k, none⟩ = some (.int .i64 ((cnt ws L t k : Nat) : Int)) := by
 rw [cell_of h, List.getElem?_toArray, mets_at ht hk]
theorem rfits_t17 {Q : Ending → World → Prop} {ws : List (List (Fin 3))} {L : List CornW} {mt n : Nat} {wz : World} {e : Int} (hn : n = ws.length) (hwl : ws.length ≤ 200) (hmet : wz.heap[mt]? = some (.cells (mets ws n L).toArray 60 (0, 0)))
 (HQ : Hid (∀ w', Below wz.heap.size wz w' → Q (.returned (.int .i64 e)) w')) (he0 : (∀ t, t < ws.length → cnt ws L t 1 = 1 ∧ cnt ws L t 2 = 1 ∧ cnt ws L t 3 = 1) → e = 0) (he1 : ¬ (∀ t, t < ws.length → cnt ws L t 1 = 1 ∧ cnt ws L t 2 = 1 ∧ cnt ws L t 3 = 1) → e = 20) {u0 u1 u2 u3 u4 u5 u6 u7 u8 u9 u10 u12 u13 u14 u15 u16 u17 u18 u19 u20 u21 u22 u23 u24 u25 u26 u27 u28 u29 u30 u31 u32 u33 u34 u35 u36 u37 u38 u39 u40 u41 u42 u43 u44 u45 u46 u47 u48 u49 u50 u51 u52 u53 u54 u55 u56 u57 u58 u59 u60 u61 u62 u63 u64 u65 u66 u67 u68 u69 u70 u71 u72 u73 u74 u75 u76 u77 u78 u79 u80 u81 u82 u83 u84 u85 u86 u87 u88 : Value} :
 Code.wp Try.prog rfits17 (bodyPost Try.prog Try.f8 Q) ⟨#[u0, u1, u2, u3, u4, u5, u6, u7, u8, u9, u10, .slice (some ⟨mt, 0, none⟩) n n, u12, u13, u14, u15, u16, u17, u18, u19, u20, u21, u22, u23, u24, u25, u26, u27, u28, u29, u30, u31, u32, u33, u34, u35, u36, u37, u38, u39, u40, u41, u42, u43, u44, u45, u46, u47, u48, u49, u50, u51, u52, u53, u54, u55, u56, u57, u58, u59, u60, u61, u62, u63, u64, u65, u66, u67, u68, u69, u70, u71, u72, u73, u74, u75, u76, u77, u78, u79, u80, u81, u82, u83, u84, u85, u86, u87, u88], []⟩ wz := by
 have HM := Lib.hid hmet
 have HEQ := Hi (And.intro he0 he1)
 have HNN := Lib.hid hn
 have hn2 : n ≤ 200 := by omega
 clear hmet he0 he1 hn hwl
 conv => arg 2; whnf
 go_wp2_with fail
 go_loopw [71] (fun t wr => ∃ k : Nat, k ≤ n ∧ t = .int .i64 (k : Nat) ∧ Hid (Below wz.heap.size wz wr ∧ ∀ i, i < k → cnt ws L i 1 = 1 ∧ cnt ws L i 2 = 1 ∧ cnt ws L i 3 = 1)) (fun t _ => n - (intOf t).toNat)
 case atStart => exact ⟨0, by omega, rfl, Lib.hid ⟨Below.refl _ _, fun i h => by omega⟩⟩
 case round =>
  obtain ⟨k, hk, rfl, HK⟩ := hrel
  by_cases hlt : k < n
  · have hmr := (HK.out.1.block _ (Array.getElem?_eq_some_iff.1 HM.out).1).trans HM.out
    have c0 := met_cell hmr (t := k) (k := 0) hlt (by omega)
    have c1 := met_cell hmr (t := k) (k := 1) hlt (by omega)
    have c2 := met_cell hmr (t := k) (k := 2) hlt (by omega)
    have c3 := met_cell hmr (t := k) (k := 3) hlt (by omega)
    rw [Nat.add_zero] at c0
    have k1 : (k : Int) < (n : Int) := by omega
    have k2 : (0 : Int) ≤ (k : Int) := by omega
    have HLT := Lib.hid hlt
    have HBA := Hi (HK.out.1.trans ((Below.refl wr.heap.size wr).alloc (Nat.le_refl _) (.cells #[.int .i64 ((cnt ws L k 0 : Nat) : Int), .int .i64 ((cnt ws L k 1 : Nat) : Int), .int .i64 ((cnt ws L k 2 : Nat) : Int), .int .i64 ((cnt ws L k 3 : Nat) : Int)] 60) |>.mono HK.out.1.size))
    clear hmr hlt
    by_cases h1 : cnt ws L k 1 = 1 ∧ cnt ws L k 2 = 1 ∧ cnt ws L k 3 = 1
    · have HKN : Hid (∀ i, i < k + 1 → cnt ws L i 1 = 1 ∧ cnt ws L i 2 = 1 ∧ cnt ws L i 3 = 1) := Hi (fun i hi => by
       by_cases e : i = k
       · subst e; exact h1
       · exact HK.out.2 i (by omega))
      obtain ⟨e1, e2, e3⟩ := h1
      rw [e1, e2, e3] at HBA
      rw [e1] at c1
      rw [e2] at c2
      rw [e3] at c3
      clear e1 e2 e3
      generalize cnt ws L k 0 = x0 at *
      go_wp2_with fail
      go_roundw
      case rel => exact ⟨k + 1, by have := HLT.out; omega, by go_num, Lib.hid ⟨HBA.out, HKN.out⟩⟩
      case measure =>
       have := HLT.out
       simp [intOf]; omega
    · have HE : Hid (e = 20) := Hi (HEQ.out.2 (fun h => h1 (h k (by have := HLT.out; have := HNN.out; omega))))
      have h1 : ¬ (((cnt ws L k 1 : Nat) : Int) = 1 ∧ ((cnt ws L k 2 : Nat) : Int) = 1 ∧ ((cnt ws L k 3 : Nat) : Int) = 1) := fun h => h1 ⟨by omega, by omega, by omega⟩
      generalize ((cnt ws L k 0 : Nat) : Int) = x0 at *
      generalize ((cnt ws L k 1 : Nat) : Int) = x1 at *
      generalize ((cnt ws L k 2 : Nat) : Int) = x2 at *
      generalize ((cnt ws L k 3 : Nat) : Int) = x3 at *
      by_cases e1 : x1 = 1
      · subst e1
        by_cases e2 : x2 = 1
        · subst e2
          have e4 : ¬ x3 = 1 := fun e => h1 ⟨rfl, rfl, e⟩
          have e3 : (x3 == 1) = false := by simpa using e4
          clear h1
          go_wp2_with fail
          rw [← HE.out]
          exact HQ.out _ HBA.out
        · have e3 : (x2 == 1) = false := by simpa using e2
          clear h1
          go_wp2_with fail
          rw [← HE.out]
          exact HQ.out _ HBA.out
      · have e3 : (x1 == 1) = false := by simpa using e1
        clear h1
        go_wp2_with fail
        rw [← HE.out]
        exact HQ.out _ HBA.out
  · have hke : k = n := by omega
    subst hke
    have k1 : ¬ (k : Int) < (k : Int) := by omega
    have HE : Hid (e = 0) := Hi (HEQ.out.1 (fun t ht => HK.out.2 t (by have := HNN.out; omega)))
    go_wp2_with fail
    rw [← HE.out]
    exact HQ.out _ HK.out.1
end Go.Proofs.Ytkndmibmmoikbaa
