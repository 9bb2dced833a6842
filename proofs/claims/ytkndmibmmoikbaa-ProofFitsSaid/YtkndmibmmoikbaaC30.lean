/- Chapter 10: Rf4 Rf5. -/
import Derived.Test.YtkndmibmmoikbaaC29
set_option linter.all false
set_option maxRecDepth 100000
set_option maxHeartbeats 16000000
namespace Go.Proofs.Ytkndmibmmoikbaa
open Go.RowKit
open Cox (Tl)
structure RCells (a b c : Int) (v1 : Value) (pto : Option Addr) (n cto : Nat) (v3 v4 : Value) (bl : Nat) (ptt : Option Addr) (m ctt : Nat) (yi yj r : Int) (mir : Bool) (pb po nl tb to_ j0 jl s1v s2v : Nat) (f1 f2 : Int) (w : World) : Prop where
 c0 : w.cell? ⟨bl, 0, none⟩ = some (.int .i64 a)
 c1 : w.cell? ⟨bl, 1, none⟩ = some (.int .i64 b)
 c2 : w.cell? ⟨bl, 2, none⟩ = some (.int .i64 c)
 c3 : w.cell? ⟨bl, 3, none⟩ = some v1
 c4 : w.cell? ⟨bl, 4, none⟩ = some (.slice pto n cto)
 c5 : w.cell? ⟨bl, 5, none⟩ = some v3
 c6 : w.cell? ⟨bl, 6, none⟩ = some v4
 d0 : w.cell? ⟨bl + 1, 0, none⟩ = some (.slice ptt m ctt)
 d1 : w.cell? ⟨bl + 1, 1, none⟩ = some (.int .i64 yi)
 d2 : w.cell? ⟨bl + 1, 2, none⟩ = some (.int .i64 yj)
 d3 : w.cell? ⟨bl + 1, 3, none⟩ = some (.int .i64 r)
 d4 : w.cell? ⟨bl + 1, 4, none⟩ = some (.bool mir)
 p0 : w.cell? ⟨pb, po, none⟩ = some (.int .i64 (j0 : Nat))
 pn : w.cell? ⟨pb, po + nl, none⟩ = some (.int .i64 (jl : Nat))
 t1 : pto = some ⟨tb, to_, none⟩ ∧ w.cell? ⟨tb, to_ + j0 * 3 + s1v, none⟩ = some (.int .i64 f1)
 t2 : w.cell? ⟨tb, to_ + j0 * 3 + s2v, none⟩ = some (.int .i64 f2)
theorem RCells.below {a b c : Int} {v1 : Value} {pto : Option Addr} {n cto : Nat} {v3 v4 : Value} {bl : Nat} {ptt : Option Addr} {m ctt : Nat} {yi yj r : Int} {mir : Bool} {pb po nl tb to_ j0 jl s1v s2v : Nat} {f1 f2 : Int} {w w' : World}
 (h : RCells a b c v1 pto n cto v3 v4 bl ptt m ctt yi yj r mir pb po nl tb to_ j0 jl s1v s2v f1 f2 w) (hb : Below w.heap.size w w') : RCells a b c v1 pto n cto v3 v4 bl ptt m ctt yi yj r mir pb po nl tb to_ j0 jl s1v s2v f1 f2 w' :=
 ⟨cell_stays hb h.c0, cell_stays hb h.c1, cell_stays hb h.c2, cell_stays hb h.c3, cell_stays hb h.c4, cell_stays hb h.c5, cell_stays hb h.c6, cell_stays hb h.d0, cell_stays hb h.d1, cell_stays hb h.d2, cell_stays hb h.d3, cell_stays hb h.d4, cell_stays hb h.p0, cell_stays hb h.pn, ⟨h.t1.1, cell_stays hb h.t1.2⟩, cell_stays hb h.t2⟩
theorem ty1 {P : Program} {S : World → Prop} {Q : Exit → Act → World → Prop} {md : Region.Mode} {l : List Oper} (i : Nat) {oi : Oper} {v : Value} {fuel : Nat} {listed : Array Bool} {a : Act} {w : World} (hS : S w)
 (h : wpAnyH P md l.toArray Q S fuel (listed.setIfInBounds i true) (a.put oi.dst v) w) (hi : l[i]? = some oi := by rfl) (hy : ∀ w, S w → (execOp a.eval oi).run P w = .ok (.value v) w := by (rintro w' ⟨q0, q1, q2, q3, q4, q5, q6, q7, q8, q9, q10, q11, q12, q13, ⟨_, q14⟩, q15⟩; go_simp <;> with_reducible rfl)) (hs : Region.noSelect l.toArray = true := by kernel_rfl) (hf : Region.free md l.toArray listed i = true := by kernel_rfl) (hr : (Region.ready md l.toArray listed).contains i = true := by kernel_rfl)
 (hQ : ∀ c a w, Q (.panic c) (a.put oi.dst v) w → Q (.panic c) a w := by first | exact fun _ _ _ h => h | exact fun _ _ _ h => (nomatch h.1)) (hw : Region.wanted oi (yielded l.toArray a.tmps) = true := by kernel_rfl) : wpAnyH P md l.toArray Q S (fuel + 1) listed a w :=
 take_yes hi hs hf hr hQ hw hy hS h
noncomputable def rright10 : Code := (Try.f18.body.bind (onlyR 10)).getD .skip
theorem rright_t10 {Q : Ending → World → Prop} {K0 : Act → World → Prop} {a b c : Int} {v1 v3 v4 : Value} {pto ptt : Option Addr} {n cto m ctt bl pb po nl tb to_ j0 jl : Nat} {yi yj r f1 f2 : Int} {mir : Bool} {s1v s2v : Nat} {cj : Nat} {o : Int} {si sj : Fin 3} (hyi : yi = (si.val : Int)) (hyj : yj = (sj.val : Int)) (h1 : s1v = si.val) (h2 : s2v = sj.val) {wz : World} (hc : RCells a b c v1 pto n cto v3 v4 bl ptt m ctt yi yj r mir pb po nl tb to_ j0 jl s1v s2v f1 f2 wz) (hm : 0 < m) (hm2 : m ≤ 1000) (hnl : m = nl + 1) (hj0 : j0 < n) (hn : n ≤ 1000) {RL : Prop}
 (LD : Hid (∀ w1, Below wz.heap.size wz.drew w1 → Calls Try.prog 46 #[lval a b c v1 pto n cto v3 v4, .slice (some ⟨pb, po, none⟩) m cj, .int .i64 (si.val : Int), .int .i64 (sj.val : Int), .int .i64 (jl : Int)] w1 fun e w' => ∃ bb : Bool, e = .returned (.bool bb) ∧ (bb = true ↔ RL) ∧ Below w1.heap.size w1 w')) {u0 u1 u4 u5 u7 u10 u11 u12 u13 u14 u15 u16 u17 u18 u19 u20 u21 u22 u23 u24 u25 u26 u27 u28 u29 u30 u31 u32 u33 u34 u35 u36 u37 u38 u39 u40 u41 u42 u43 u44 u45 u46 u47 u48 u49 u50 u51 u52 u53 u54 u55 u56 u57 u58 u59 u60 u61 u62 u63 u64 u65 u66 u67 u68 u69 u70 u71 u72 u73 u74 u75 u76 u77 u78 u79 u80 u81 u82 u83 u84 u85 u86 u87 u88 u89 u90 u91 u92 u93 u94 u95 u96 u97 u98 u99 u100 u101 u102 u103 u104 u105 u106 u107 u108 u109 u110 u111 u112 u113 u114 u115 u116 u117 u118 u119 u120 u121 u122 u123 u124 u125 u126 u127 u128 u129 u130 u131 u132 u133 u134 u135 u136 u137 u138 u139 u140 : Value}
 (HNEXT : Hid (∀ (b1 : Bool) (wx : World) (v73 v74 v75 v76 v77 v78 v79 v80 v81 v82 v83 v84 v85 v86 v87 v88 v89 v90 v91 v92 v93 v94 v95 v96 v97 v98 v99 v100 : Value), (b1 = true ↔ f2 = (j0 : Int) ∧ RL) → Below wz.heap.size wz wx → RCells a b c v1 pto n cto v3 v4 bl ptt m ctt yi yj r mir pb po nl tb to_ j0 jl s1v s2v f1 f2 wx → K0 ⟨#[u0, u1, .pointer (some ⟨bl, 0, none⟩), .pointer (some ⟨bl + 1, 0, none⟩), u4, u5, .slice (some ⟨pb, po, none⟩) m cj, u7, .int .i64 o, .int .i64 (m : Nat), .bool b1, u11, u12, u13, u14, u15, u16, u17, u18, u19, u20, u21, u22, u23, u24, u25, u26, u27, u28, u29, u30, u31, u32, u33, u34, u35, u36, u37, u38, u39, u40, u41, u42, u43, u44, u45, u46, u47, u48, u49, u50, u51, u52, u53, u54, u55, u56, u57, u58, u59, u60, u61, u62, u63, u64, u65, u66, u67, u68, u69, u70, u71, u72, v73, v74, v75, v76, v77, v78, v79, v80, v81, v82, v83, v84, v85, v86, v87, v88, v89, v90, v91, v92, v93, v94, v95, v96, v97, v98, v99, v100, u101, u102, u103, u104, u105, u106, u107, u108, u109, u110, u111, u112, u113, u114, u115, u116, u117, u118, u119, u120, u121, u122, u123, u124, u125, u126, u127, u128, u129, u130, u131, u132, u133, u134, u135, u136, u137, u138, u139, u140], []⟩ wx)) :
 Code.wp Try.prog rright10 (Exit.then K0 (bodyPost Try.prog Try.f18 Q)) ⟨#[u0, u1, .pointer (some ⟨bl, 0, none⟩), .pointer (some ⟨bl + 1, 0, none⟩), u4, u5, .slice (some ⟨pb, po, none⟩) m cj, u7, .int .i64 o, .int .i64 (m : Nat), u10, u11, u12, u13, u14, u15, u16, u17, u18, u19, u20, u21, u22, u23, u24, u25, u26, u27, u28, u29, u30, u31, u32, u33, u34, u35, u36, u37, u38, u39, u40, u41, u42, u43, u44, u45, u46, u47, u48, u49, u50, u51, u52, u53, u54, u55, u56, u57, u58, u59, u60, u61, u62, u63, u64, u65, u66, u67, u68, u69, u70, u71, u72, u73, u74, u75, u76, u77, u78, u79, u80, u81, u82, u83, u84, u85, u86, u87, u88, u89, u90, u91, u92, u93, u94, u95, u96, u97, u98, u99, u100, u101, u102, u103, u104, u105, u106, u107, u108, u109, u110, u111, u112, u113, u114, u115, u116, u117, u118, u119, u120, u121, u122, u123, u124, u125, u126, u127, u128, u129, u130, u131, u132, u133, u134, u135, u136, u137, u138, u139, u140], []⟩ wz := by
 have HD : RCells a b c v1 pto n cto v3 v4 bl ptt m ctt yi yj r mir pb po nl tb to_ j0 jl s1v s2v f1 f2 wz.drew := hc.below ((Below.refl _ _).drew)
 unfold lval at LD
 subst hyi hyj h1 h2
 obtain ⟨hpto, _⟩ := HD.t1
 subst hpto
 have n1 : (m : Int) - 1 = (nl : Int) := by omega
 have n2 : (nl : Int) < (m : Int) := by omega
 have n3 : (0 : Int) ≤ (nl : Int) := by omega
 have n4 : IntKind.i64.wrap ((m : Int) - 1) = (nl : Int) := by rw [IntKind.wrap_i64]; omega
 have n5 : IntKind.i64.wrap (nl : Int) = (nl : Int) := by rw [IntKind.wrap_i64]; omega
 have n6 : (0 : Int) ≤ (m : Int) - 1 := by omega
 have n7 : (m : Int) - 1 < (m : Int) := by omega
 have n8 : ((m : Int) - 1).toNat = nl := by omega
 have n9 : (0 : Int) < (m : Int) := by omega
 have n10 : (j0 : Int) < (n : Int) := by omega
 have n11 : (0 : Int) ≤ (j0 : Int) := by omega
 have n12 : (si.val : Int) < 3 := by have := si.isLt; omega
 have n13 : (sj.val : Int) < 3 := by have := sj.isLt; omega
 have n14 : (0 : Int) ≤ (si.val : Int) := by omega
 have n15 : (0 : Int) ≤ (sj.val : Int) := by omega
 clear hc hnl hm2 hn
 conv => arg 2; whnf
 by_cases hf : f2 = (j0 : Int)
 case neg =>
  have HF := Lib.hid hf
  have e0 : (f2 == (j0 : Int)) = false := by simpa using hf
  clear hf LD
  refine wp_region_held_drew (S := fun w' => RCells a b c v1 (some ⟨tb, to_, none⟩) n cto v3 v4 bl ptt m ctt (si.val : Int) (sj.val : Int) r mir pb po nl tb to_ j0 jl si.val sj.val f1 f2 w') (by kernel_rfl) (HD) (fun hHeld => ?_)
  refine ty1 0 hHeld ?_
  try simp only [ly]
  refine ty1 1 hHeld ?_
  try simp only [ly]
  refine ty1 2 hHeld ?_
  try simp only [ly]
  refine ty1 3 hHeld ?_
  try simp only [ly]
  refine ty1 4 hHeld ?_
  try simp only [ly]
  refine ty1 5 hHeld ?_
  try simp only [ly]
  refine ty1 6 hHeld ?_
  try simp only [ly]
  refine ty1 7 hHeld ?_
  try simp only [ly]
  refine ty1 8 hHeld ?_
  try simp only [ly]
  refine ty1 9 hHeld ?_
  try simp only [ly]
  refine ty1 10 hHeld ?_
  try simp only [ly]
  refine ty1 11 hHeld ?_
  try simp only [ly]
  refine ty1 12 hHeld ?_
  try simp only [ly]
  refine ty1 13 hHeld ?_
  try simp only [ly]
  refine ty1 14 hHeld ?_
  try simp only [ly]
  refine tn 15 hHeld ?_
  try simp only [ly]
  refine tn 16 hHeld ?_
  try simp only [ly]
  refine tn 17 hHeld ?_
  try simp only [ly]
  refine tn 18 hHeld ?_
  try simp only [ly]
  refine tn 19 hHeld ?_
  try simp only [ly]
  refine tn 20 hHeld ?_
  try simp only [ly]
  refine tn 21 hHeld ?_
  try simp only [ly]
  refine tn 22 hHeld ?_
  try simp only [ly]
  refine tn 23 hHeld ?_
  try simp only [ly]
  refine tn 24 hHeld ?_
  try simp only [ly]
  refine tn 25 hHeld ?_
  try simp only [ly]
  refine tn 26 hHeld ?_
  try simp only [ly]
  refine ty1 27 hHeld ?_
  try simp only [ly]
  refine ty1 28 hHeld ?_
  try simp only [ly]
  refine wpAnyH_done (by kernel_rfl) ?_ _
  exact HNEXT.out false _ _ _ _ _ _ _ _ _ _ _ _ _ _ _ _ _ _ _ _ _ _ _ _ _ _ _ _ _ ⟨fun h => (by cases h), fun h => (HF.out h.1).elim⟩ ((Below.refl _ _).drew) HD
 case pos =>
  subst hf
  have e0 : ((j0 : Int) == (j0 : Int)) = true := by simp
  refine wp_region_held_drew (S := fun w' => RCells a b c v1 (some ⟨tb, to_, none⟩) n cto v3 v4 bl ptt m ctt (si.val : Int) (sj.val : Int) r mir pb po nl tb to_ j0 jl si.val sj.val f1 (j0 : Int) w') (by kernel_rfl) (HD) (fun hHeld => ?_)
  refine ty1 0 hHeld ?_
  try simp only [ly]
  refine ty1 1 hHeld ?_
  try simp only [ly]
  refine ty1 2 hHeld ?_
  try simp only [ly]
  refine ty1 3 hHeld ?_
  try simp only [ly]
  refine ty1 4 hHeld ?_
  try simp only [ly]
  refine ty1 5 hHeld ?_
  try simp only [ly]
  refine ty1 6 hHeld ?_
  try simp only [ly]
  refine ty1 7 hHeld ?_
  try simp only [ly]
  refine ty1 8 hHeld ?_
  try simp only [ly]
  refine ty1 9 hHeld ?_
  try simp only [ly]
  refine ty1 10 hHeld ?_
  try simp only [ly]
  refine ty1 11 hHeld ?_
  try simp only [ly]
  refine ty1 12 hHeld ?_
  try simp only [ly]
  refine ty1 13 hHeld ?_
  try simp only [ly]
  refine ty1 14 hHeld ?_
  try simp only [ly]
  refine ty1 15 hHeld ?_
  try simp only [ly]
  refine ty1 16 hHeld ?_
  try simp only [ly]
  refine ty1 17 hHeld ?_
  try simp only [ly]
  refine ty1 18 hHeld ?_
  try simp only [ly]
  refine ty1 19 hHeld ?_
  try simp only [ly]
  refine ty1 20 hHeld ?_
  try simp only [ly]
  refine ty1 21 hHeld ?_
  try simp only [ly]
  refine ty1 22 hHeld ?_
  try simp only [ly]
  refine ty1 23 hHeld ?_
  try simp only [ly]
  refine ty1 24 hHeld ?_
  try simp only [ly]
  refine ty1 25 hHeld ?_
  try simp only [ly]
  refine take_step (i := 26) rfl (by kernel_rfl) (fun K' hK => ?_)
  go_simp
  go_at_call 46
  refine (LD.out _ (Below.refl _ _)).mono ?_
  rintro e w4 ⟨bb, rfl, hbb, hb4⟩
  have H4 := Hi (And.intro hbb hb4)
  have g4 := RCells.below hHeld hb4
  clear hbb hb4
  refine hK.out _ _ (g4) (fun hHeld => ?_)
  clear hK K'
  try simp only [ly]
  refine ty1 27 hHeld ?_
  try simp only [ly]
  refine ty1 28 hHeld ?_
  try simp only [ly]
  refine wpAnyH_done (by kernel_rfl) ?_ _
  refine HNEXT.out bb _ _ _ _ _ _ _ _ _ _ _ _ _ _ _ _ _ _ _ _ _ _ _ _ _ _ _ _ _ ?_ (((Below.refl _ _).drew).trans H4.out.2) g4
  rw [H4.out.1]
  exact ⟨fun h => ⟨rfl, h⟩, fun h => h.2⟩
noncomputable def rright11 : Code := (Try.f18.body.bind (onlyR 11)).getD .skip
theorem rright_t11 {Q : Ending → World → Prop} {K0 : Act → World → Prop} {a b c : Int} {v1 v3 v4 : Value} {pto ptt : Option Addr} {n cto m ctt bl pb po nl tb to_ j0 jl : Nat} {yi yj r f1 f2 : Int} {mir : Bool} {s1v s2v : Nat} {cj : Nat} {o : Int} {si sj : Fin 3} (hyi : yi = (si.val : Int)) (hyj : yj = (sj.val : Int)) (h1 : s1v = si.val) (h2 : s2v = sj.val) {wz : World} (hc : RCells a b c v1 pto n cto v3 v4 bl ptt m ctt yi yj r mir pb po nl tb to_ j0 jl s1v s2v f1 f2 wz) (hm : 0 < m) (hm2 : m ≤ 1000) (hnl : m = nl + 1) (hj0 : j0 < n) (hn : n ≤ 1000) {RL : Prop}
 (LD : Hid (∀ w1, Below wz.heap.size wz.drew w1 → Calls Try.prog 46 #[lval a b c v1 pto n cto v3 v4, .slice (some ⟨pb, po, none⟩) m cj, .int .i64 (sj.val : Int), .int .i64 (si.val : Int), .int .i64 (jl : Int)] w1 fun e w' => ∃ bb : Bool, e = .returned (.bool bb) ∧ (bb = true ↔ RL) ∧ Below w1.heap.size w1 w')) {u0 u1 u4 u5 u7 u11 u12 u13 u14 u15 u16 u17 u18 u19 u20 u21 u22 u23 u24 u25 u26 u27 u28 u29 u30 u31 u32 u33 u34 u35 u36 u37 u38 u39 u40 u41 u42 u43 u44 u45 u46 u47 u48 u49 u50 u51 u52 u53 u54 u55 u56 u57 u58 u59 u60 u61 u62 u63 u64 u65 u66 u67 u68 u69 u70 u71 u72 u73 u74 u75 u76 u77 u78 u79 u80 u81 u82 u83 u84 u85 u86 u87 u88 u89 u90 u91 u92 u93 u94 u95 u96 u97 u98 u99 u100 u101 u102 u103 u104 u105 u106 u107 u108 u109 u110 u111 u112 u113 u114 u115 u116 u117 u118 u119 u120 u121 u122 u123 u124 u125 u126 u127 u128 u129 u130 u131 u132 u133 u134 u135 u136 u137 u138 u139 u140 : Value} (b0 : Bool)
 (HNEXT : Hid (∀ (b1 : Bool) (wx : World) (v101 v102 v103 v104 v105 v106 v107 v108 v109 v110 v111 v112 v113 v114 v115 v116 v117 v118 v119 v120 v121 v122 v123 v124 v125 v126 v127 v128 : Value), (b1 = true ↔ f1 = (j0 : Int) ∧ RL) → Below wz.heap.size wz wx → RCells a b c v1 pto n cto v3 v4 bl ptt m ctt yi yj r mir pb po nl tb to_ j0 jl s1v s2v f1 f2 wx → K0 ⟨#[u0, u1, .pointer (some ⟨bl, 0, none⟩), .pointer (some ⟨bl + 1, 0, none⟩), u4, u5, .slice (some ⟨pb, po, none⟩) m cj, u7, .int .i64 o, .int .i64 (m : Nat), .bool b0, .bool b1, u12, u13, u14, u15, u16, u17, u18, u19, u20, u21, u22, u23, u24, u25, u26, u27, u28, u29, u30, u31, u32, u33, u34, u35, u36, u37, u38, u39, u40, u41, u42, u43, u44, u45, u46, u47, u48, u49, u50, u51, u52, u53, u54, u55, u56, u57, u58, u59, u60, u61, u62, u63, u64, u65, u66, u67, u68, u69, u70, u71, u72, u73, u74, u75, u76, u77, u78, u79, u80, u81, u82, u83, u84, u85, u86, u87, u88, u89, u90, u91, u92, u93, u94, u95, u96, u97, u98, u99, u100, v101, v102, v103, v104, v105, v106, v107, v108, v109, v110, v111, v112, v113, v114, v115, v116, v117, v118, v119, v120, v121, v122, v123, v124, v125, v126, v127, v128, u129, u130, u131, u132, u133, u134, u135, u136, u137, u138, u139, u140], []⟩ wx)) :
 Code.wp Try.prog rright11 (Exit.then K0 (bodyPost Try.prog Try.f18 Q)) ⟨#[u0, u1, .pointer (some ⟨bl, 0, none⟩), .pointer (some ⟨bl + 1, 0, none⟩), u4, u5, .slice (some ⟨pb, po, none⟩) m cj, u7, .int .i64 o, .int .i64 (m : Nat), .bool b0, u11, u12, u13, u14, u15, u16, u17, u18, u19, u20, u21, u22, u23, u24, u25, u26, u27, u28, u29, u30, u31, u32, u33, u34, u35, u36, u37, u38, u39, u40, u41, u42, u43, u44, u45, u46, u47, u48, u49, u50, u51, u52, u53, u54, u55, u56, u57, u58, u59, u60, u61, u62, u63, u64, u65, u66, u67, u68, u69, u70, u71, u72, u73, u74, u75, u76, u77, u78, u79, u80, u81, u82, u83, u84, u85, u86, u87, u88, u89, u90, u91, u92, u93, u94, u95, u96, u97, u98, u99, u100, u101, u102, u103, u104, u105, u106, u107, u108, u109, u110, u111, u112, u113, u114, u115, u116, u117, u118, u119, u120, u121, u122, u123, u124, u125, u126, u127, u128, u129, u130, u131, u132, u133, u134, u135, u136, u137, u138, u139, u140], []⟩ wz := by
 have HD : RCells a b c v1 pto n cto v3 v4 bl ptt m ctt yi yj r mir pb po nl tb to_ j0 jl s1v s2v f1 f2 wz.drew := hc.below ((Below.refl _ _).drew)
 unfold lval at LD
 subst hyi hyj h1 h2
 obtain ⟨hpto, _⟩ := HD.t1
 subst hpto
 have n1 : (m : Int) - 1 = (nl : Int) := by omega
 have n2 : (nl : Int) < (m : Int) := by omega
 have n3 : (0 : Int) ≤ (nl : Int) := by omega
 have n4 : IntKind.i64.wrap ((m : Int) - 1) = (nl : Int) := by rw [IntKind.wrap_i64]; omega
 have n5 : IntKind.i64.wrap (nl : Int) = (nl : Int) := by rw [IntKind.wrap_i64]; omega
 have n6 : (0 : Int) ≤ (m : Int) - 1 := by omega
 have n7 : (m : Int) - 1 < (m : Int) := by omega
 have n8 : ((m : Int) - 1).toNat = nl := by omega
 have n9 : (0 : Int) < (m : Int) := by omega
 have n10 : (j0 : Int) < (n : Int) := by omega
 have n11 : (0 : Int) ≤ (j0 : Int) := by omega
 have n12 : (si.val : Int) < 3 := by have := si.isLt; omega
 have n13 : (sj.val : Int) < 3 := by have := sj.isLt; omega
 have n14 : (0 : Int) ≤ (si.val : Int) := by omega
 have n15 : (0 : Int) ≤ (sj.val : Int) := by omega
 clear hc hnl hm2 hn
 conv => arg 2; whnf
 by_cases hf : f1 = (j0 : Int)
 case neg =>
  have HF := Lib.hid hf
  have e0 : (f1 == (j0 : Int)) = false := by simpa using hf
  clear hf LD
  refine wp_region_held_drew (S := fun w' => RCells a b c v1 (some ⟨tb, to_, none⟩) n cto v3 v4 bl ptt m ctt (si.val : Int) (sj.val : Int) r mir pb po nl tb to_ j0 jl si.val sj.val f1 f2 w') (by kernel_rfl) (HD) (fun hHeld => ?_)
  refine ty1 0 hHeld ?_
  try simp only [ly]
  refine ty1 1 hHeld ?_
  try simp only [ly]
  refine ty1 2 hHeld ?_
  try simp only [ly]
  refine ty1 3 hHeld ?_
  try simp only [ly]
  refine ty1 4 hHeld ?_
  try simp only [ly]
  refine ty1 5 hHeld ?_
  try simp only [ly]
  refine ty1 6 hHeld ?_
  try simp only [ly]
  refine ty1 7 hHeld ?_
  try simp only [ly]
  refine ty1 8 hHeld ?_
  try simp only [ly]
  refine ty1 9 hHeld ?_
  try simp only [ly]
  refine ty1 10 hHeld ?_
  try simp only [ly]
  refine ty1 11 hHeld ?_
  try simp only [ly]
  refine ty1 12 hHeld ?_
  try simp only [ly]
  refine ty1 13 hHeld ?_
  try simp only [ly]
  refine ty1 14 hHeld ?_
  try simp only [ly]
  refine tn 15 hHeld ?_
  try simp only [ly]
  refine tn 16 hHeld ?_
  try simp only [ly]
  refine tn 17 hHeld ?_
  try simp only [ly]
  refine tn 18 hHeld ?_
  try simp only [ly]
  refine tn 19 hHeld ?_
  try simp only [ly]
  refine tn 20 hHeld ?_
  try simp only [ly]
  refine tn 21 hHeld ?_
  try simp only [ly]
  refine tn 22 hHeld ?_
  try simp only [ly]
  refine tn 23 hHeld ?_
  try simp only [ly]
  refine tn 24 hHeld ?_
  try simp only [ly]
  refine tn 25 hHeld ?_
  try simp only [ly]
  refine tn 26 hHeld ?_
  try simp only [ly]
  refine ty1 27 hHeld ?_
  try simp only [ly]
  refine ty1 28 hHeld ?_
  try simp only [ly]
  refine wpAnyH_done (by kernel_rfl) ?_ _
  exact HNEXT.out false _ _ _ _ _ _ _ _ _ _ _ _ _ _ _ _ _ _ _ _ _ _ _ _ _ _ _ _ _ ⟨fun h => (by cases h), fun h => (HF.out h.1).elim⟩ ((Below.refl _ _).drew) HD
 case pos =>
  subst hf
  have e0 : ((j0 : Int) == (j0 : Int)) = true := by simp
  refine wp_region_held_drew (S := fun w' => RCells a b c v1 (some ⟨tb, to_, none⟩) n cto v3 v4 bl ptt m ctt (si.val : Int) (sj.val : Int) r mir pb po nl tb to_ j0 jl si.val sj.val (j0 : Int) f2 w') (by kernel_rfl) (HD) (fun hHeld => ?_)
  refine ty1 0 hHeld ?_
  try simp only [ly]
  refine ty1 1 hHeld ?_
  try simp only [ly]
  refine ty1 2 hHeld ?_
  try simp only [ly]
  refine ty1 3 hHeld ?_
  try simp only [ly]
  refine ty1 4 hHeld ?_
  try simp only [ly]
  refine ty1 5 hHeld ?_
  try simp only [ly]
  refine ty1 6 hHeld ?_
  try simp only [ly]
  refine ty1 7 hHeld ?_
  try simp only [ly]
  refine ty1 8 hHeld ?_
  try simp only [ly]
  refine ty1 9 hHeld ?_
  try simp only [ly]
  refine ty1 10 hHeld ?_
  try simp only [ly]
  refine ty1 11 hHeld ?_
  try simp only [ly]
  refine ty1 12 hHeld ?_
  try simp only [ly]
  refine ty1 13 hHeld ?_
  try simp only [ly]
  refine ty1 14 hHeld ?_
  try simp only [ly]
  refine ty1 15 hHeld ?_
  try simp only [ly]
  refine ty1 16 hHeld ?_
  try simp only [ly]
  refine ty1 17 hHeld ?_
  try simp only [ly]
  refine ty1 18 hHeld ?_
  try simp only [ly]
  refine ty1 19 hHeld ?_
  try simp only [ly]
  refine ty1 20 hHeld ?_
  try simp only [ly]
  refine ty1 21 hHeld ?_
  try simp only [ly]
  refine ty1 22 hHeld ?_
  try simp only [ly]
  refine ty1 23 hHeld ?_
  try simp only [ly]
  refine ty1 24 hHeld ?_
  try simp only [ly]
  refine ty1 25 hHeld ?_
  try simp only [ly]
  refine take_step (i := 26) rfl (by kernel_rfl) (fun K' hK => ?_)
  go_simp
  go_at_call 46
  refine (LD.out _ (Below.refl _ _)).mono ?_
  rintro e w4 ⟨bb, rfl, hbb, hb4⟩
  have H4 := Hi (And.intro hbb hb4)
  have g4 := RCells.below hHeld hb4
  clear hbb hb4
  refine hK.out _ _ (g4) (fun hHeld => ?_)
  clear hK K'
  try simp only [ly]
  refine ty1 27 hHeld ?_
  try simp only [ly]
  refine ty1 28 hHeld ?_
  try simp only [ly]
  refine wpAnyH_done (by kernel_rfl) ?_ _
  refine HNEXT.out bb _ _ _ _ _ _ _ _ _ _ _ _ _ _ _ _ _ _ _ _ _ _ _ _ _ _ _ _ _ ?_ (((Below.refl _ _).drew).trans H4.out.2) g4
  rw [H4.out.1]
  exact ⟨fun h => ⟨rfl, h⟩, fun h => h.2⟩
noncomputable def rright9 : Code := (Try.f18.body.bind (onlyR 9)).getD .skip
theorem rright_t9 {Q : Ending → World → Prop} {K0 K2 : Act → World → Prop} {a b c : Int} {v1 v3 v4 : Value} {pto ptt : Option Addr} {n cto m ctt bl pb po nl tb to_ j0 jl : Nat} {yi yj r f1 f2 : Int} {mir : Bool} {s1v s2v : Nat} {cj : Nat} {o : Int} {si sj : Fin 3} (hyi : yi = (si.val : Int)) (hyj : yj = (sj.val : Int)) (h1 : s1v = si.val) (h2 : s2v = sj.val) {wz : World} (hc : RCells a b c v1 pto n cto v3 v4 bl ptt m ctt yi yj r mir pb po nl tb to_ j0 jl s1v s2v f1 f2 wz) (hm : 0 < m) (hm2 : m ≤ 1000) (ho : 0 ≤ o ∧ o ≤ 100) {RL RT : Prop}
 (LD : Hid (∀ w1, Below wz.heap.size wz.drew w1 → Calls Try.prog 46 #[lval a b c v1 pto n cto v3 v4, .slice (some ⟨pb, po, none⟩) m cj, .int .i64 (si.val : Int), .int .i64 (sj.val : Int), .int .i64 (j0 : Int)] w1 fun e w' => ∃ bb : Bool, e = .returned (.bool bb) ∧ (bb = true ↔ RL) ∧ Below w1.heap.size w1 w'))
 (RD : Hid (∀ w1, Calls Try.prog 47 #[lval a b c v1 pto n cto v3 v4, .agg #[.slice ptt m ctt, .int .i64 yi, .int .i64 yj, .int .i64 r, .bool mir], .int .i64 (m : Nat), .int .i64 (2 * o)] w1 fun e w' => ∃ bb : Bool, e = .returned (.bool bb) ∧ (bb = true ↔ RT) ∧ Below w1.heap.size w1 w')) {u0 u1 u4 u5 u7 u10 u11 u12 u13 u14 u15 u16 u17 u18 u19 u20 u21 u22 u23 u24 u25 u26 u27 u28 u29 u30 u31 u32 u33 u34 u35 u36 u37 u38 u39 u40 u41 u42 u43 u44 u45 u46 u47 u48 u49 u50 u51 u52 u53 u54 u55 u56 u57 u58 u59 u60 u61 u62 u63 u64 u65 u66 u67 u68 u69 u70 u71 u72 u73 u74 u75 u76 u77 u78 u79 u80 u81 u82 u83 u84 u85 u86 u87 u88 u89 u90 u91 u92 u93 u94 u95 u96 u97 u98 u99 u100 u101 u102 u103 u104 u105 u106 u107 u108 u109 u110 u111 u112 u113 u114 u115 u116 u117 u118 u119 u120 u121 u122 u123 u124 u125 u126 u127 u128 u129 u130 u131 u132 u133 u134 u135 u136 u137 u138 u139 u140 : Value}
 (HNEXT : Hid (∀ (b1 : Bool) (wx : World) (v49 v50 v51 v52 v53 v54 v55 v56 v57 v58 v59 v60 v61 v62 v63 v64 v65 v66 v67 v68 v69 v70 v71 v72 : Value), (b1 = true ↔ m % 2 = 0 ∧ RL ∧ RT) → Below wz.heap.size wz wx → RCells a b c v1 pto n cto v3 v4 bl ptt m ctt yi yj r mir pb po nl tb to_ j0 jl s1v s2v f1 f2 wx → K0 ⟨#[u0, u1, .pointer (some ⟨bl, 0, none⟩), .pointer (some ⟨bl + 1, 0, none⟩), .slice (some ⟨pb, po, none⟩) m cj, .bool b1, .slice (some ⟨pb, po, none⟩) m cj, u7, .int .i64 o, .int .i64 (m : Nat), u10, u11, u12, u13, u14, u15, u16, u17, u18, u19, u20, u21, u22, u23, u24, u25, u26, u27, u28, u29, u30, u31, u32, u33, u34, u35, u36, u37, u38, u39, u40, u41, u42, u43, u44, u45, u46, u47, u48, v49, v50, v51, v52, v53, v54, v55, v56, v57, v58, v59, v60, v61, v62, v63, v64, v65, v66, v67, v68, v69, v70, v71, v72, u73, u74, u75, u76, u77, u78, u79, u80, u81, u82, u83, u84, u85, u86, u87, u88, u89, u90, u91, u92, u93, u94, u95, u96, u97, u98, u99, u100, u101, u102, u103, u104, u105, u106, u107, u108, u109, u110, u111, u112, u113, u114, u115, u116, u117, u118, u119, u120, u121, u122, u123, u124, u125, u126, u127, u128, u129, u130, u131, u132, u133, u134, u135, u136, u137, u138, u139, u140], []⟩ wx)) :
 Code.wp Try.prog rright9 (Exit.then K0 (Exit.then K2 (bodyPost Try.prog Try.f18 Q))) ⟨#[u0, u1, .pointer (some ⟨bl, 0, none⟩), .pointer (some ⟨bl + 1, 0, none⟩), u4, u5, .slice (some ⟨pb, po, none⟩) m cj, u7, .int .i64 o, .int .i64 (m : Nat), u10, u11, u12, u13, u14, u15, u16, u17, u18, u19, u20, u21, u22, u23, u24, u25, u26, u27, u28, u29, u30, u31, u32, u33, u34, u35, u36, u37, u38, u39, u40, u41, u42, u43, u44, u45, u46, u47, u48, u49, u50, u51, u52, u53, u54, u55, u56, u57, u58, u59, u60, u61, u62, u63, u64, u65, u66, u67, u68, u69, u70, u71, u72, u73, u74, u75, u76, u77, u78, u79, u80, u81, u82, u83, u84, u85, u86, u87, u88, u89, u90, u91, u92, u93, u94, u95, u96, u97, u98, u99, u100, u101, u102, u103, u104, u105, u106, u107, u108, u109, u110, u111, u112, u113, u114, u115, u116, u117, u118, u119, u120, u121, u122, u123, u124, u125, u126, u127, u128, u129, u130, u131, u132, u133, u134, u135, u136, u137, u138, u139, u140], []⟩ wz := by
 have HD : RCells a b c v1 pto n cto v3 v4 bl ptt m ctt yi yj r mir pb po nl tb to_ j0 jl s1v s2v f1 f2 wz.drew := hc.below ((Below.refl _ _).drew)
 unfold lval at LD RD
 subst hyi hyj h1 h2
 obtain ⟨hpto, _⟩ := HD.t1
 subst hpto
 have n9 : (0 : Int) < (m : Int) := by omega
 have hw2 : IntKind.i64.wrap (2 * o) = 2 * o := by rw [IntKind.wrap_i64]; omega
 have HW2 := Lib.hid hw2
 clear hc hm2 ho hw2
 conv => arg 2; whnf
 by_cases hf : m % 2 = 0
 case neg =>
  have HF := Lib.hid hf
  have e1 : (Int.tmod (m : Int) 2 == 0) = false := by
   have : ¬ (Int.tmod (m : Int) 2 = 0) := by rw [Int.tmod_eq_emod_of_nonneg (by omega)]; omega
   simpa using this
  clear hf LD RD
  refine wp_region_held_drew (S := fun w' => RCells a b c v1 (some ⟨tb, to_, none⟩) n cto v3 v4 bl ptt m ctt (si.val : Int) (sj.val : Int) r mir pb po nl tb to_ j0 jl si.val sj.val f1 f2 w') (by kernel_rfl) (HD) (fun hHeld => ?_)
  refine ty1 0 hHeld ?_
  try simp only [ly]
  refine ty1 1 hHeld ?_
  try simp only [ly]
  refine ty1 2 hHeld ?_
  try simp only [ly]
  refine ty1 3 hHeld ?_
  try simp only [ly]
  refine ty1 4 hHeld ?_
  try simp only [ly]
  refine tn 5 hHeld ?_
  try simp only [ly]
  refine tn 6 hHeld ?_
  try simp only [ly]
  refine tn 7 hHeld ?_
  try simp only [ly]
  refine tn 8 hHeld ?_
  try simp only [ly]
  refine tn 9 hHeld ?_
  try simp only [ly]
  refine tn 10 hHeld ?_
  try simp only [ly]
  refine tn 11 hHeld ?_
  try simp only [ly]
  refine tn 12 hHeld ?_
  try simp only [ly]
  refine tn 13 hHeld ?_
  try simp only [ly]
  refine tn 14 hHeld ?_
  try simp only [ly]
  refine ty1 15 hHeld ?_
  try simp only [ly]
  refine ty1 16 hHeld ?_
  try simp only [ly]
  refine tn 17 hHeld ?_
  try simp only [ly]
  refine tn 18 hHeld ?_
  try simp only [ly]
  refine tn 19 hHeld ?_
  try simp only [ly]
  refine tn 20 hHeld ?_
  try simp only [ly]
  refine tn 21 hHeld ?_
  try simp only [ly]
  refine tn 22 hHeld ?_
  try simp only [ly]
  refine ty1 23 hHeld ?_
  try simp only [ly]
  refine ty1 24 hHeld ?_
  try simp only [ly]
  refine ty1 25 hHeld ?_
  try simp only [ly]
  refine wpAnyH_done (by kernel_rfl) ?_ _
  exact HNEXT.out false _ _ _ _ _ _ _ _ _ _ _ _ _ _ _ _ _ _ _ _ _ _ _ _ _ ⟨fun h => (by cases h), fun h => (HF.out h.1).elim⟩ ((Below.refl _ _).drew) HD
 case pos =>
  have HF := Lib.hid hf
  have e1 : (Int.tmod (m : Int) 2 == 0) = true := by
   have : Int.tmod (m : Int) 2 = 0 := by rw [Int.tmod_eq_emod_of_nonneg (by omega)]; omega
   rw [this]; rfl
  clear hf
  refine wp_region_held_drew (S := fun w' => RCells a b c v1 (some ⟨tb, to_, none⟩) n cto v3 v4 bl ptt m ctt (si.val : Int) (sj.val : Int) r mir pb po nl tb to_ j0 jl si.val sj.val f1 f2 w') (by kernel_rfl) (HD) (fun hHeld => ?_)
  refine ty1 0 hHeld ?_
  try simp only [ly]
  refine ty1 1 hHeld ?_
  try simp only [ly]
  refine ty1 2 hHeld ?_
  try simp only [ly]
  refine ty1 3 hHeld ?_
  try simp only [ly]
  refine ty1 4 hHeld ?_
  try simp only [ly]
  refine ty1 5 hHeld ?_
  try simp only [ly]
  refine ty1 6 hHeld ?_
  try simp only [ly]
  refine ty1 7 hHeld ?_
  try simp only [ly]
  refine ty1 8 hHeld ?_
  try simp only [ly]
  refine ty1 9 hHeld ?_
  try simp only [ly]
  refine ty1 10 hHeld ?_
  try simp only [ly]
  refine ty1 11 hHeld ?_
  try simp only [ly]
  refine ty1 12 hHeld ?_
  try simp only [ly]
  refine ty1 13 hHeld ?_
  try simp only [ly]
  refine take_step (i := 14) rfl (by kernel_rfl) (fun K' hK => ?_)
  go_simp
  go_at_call 46
  refine (LD.out _ (Below.refl _ _)).mono ?_
  rintro e w4 ⟨bb, rfl, hbb, hb4⟩
  have H4 := Hi (And.intro hbb hb4)
  have g4 := RCells.below hHeld hb4
  clear hbb hb4
  refine hK.out _ _ (g4) (fun hHeld => ?_)
  clear hK K'
  try simp only [ly]
  cases bb with
  | false =>
   refine ty1 15 hHeld ?_
   try simp only [ly]
   refine ty1 16 hHeld ?_
   try simp only [ly]
   refine tn 17 hHeld ?_
   try simp only [ly]
   refine tn 18 hHeld ?_
   try simp only [ly]
   refine tn 19 hHeld ?_
   try simp only [ly]
   refine tn 20 hHeld ?_
   try simp only [ly]
   refine tn 21 hHeld ?_
   try simp only [ly]
   refine tn 22 hHeld ?_
   try simp only [ly]
   refine ty1 23 hHeld ?_
   try simp only [ly]
   refine ty1 24 hHeld ?_
   try simp only [ly]
   refine ty1 25 hHeld ?_
   try simp only [ly]
   refine wpAnyH_done (by kernel_rfl) ?_ _
   exact HNEXT.out false _ _ _ _ _ _ _ _ _ _ _ _ _ _ _ _ _ _ _ _ _ _ _ _ _ ⟨fun h => (by cases h), fun h => (by have := H4.out.1.2 h.2.1; cases this)⟩ (((Below.refl _ _).drew).trans H4.out.2) g4
  | true =>
   have hw2 := HW2.out
   refine ty1 15 hHeld ?_
   try simp only [ly]
   refine ty1 16 hHeld ?_
   try simp only [ly]
   refine ty1 17 hHeld ?_
   try simp only [ly]
   refine ty1 18 hHeld ?_
   try simp only [ly]
   refine ty1 19 hHeld ?_
   try simp only [ly]
   refine ty1 20 hHeld ?_
   try simp only [ly]
   refine ty1 21 hHeld ?_
   try simp only [ly]
   refine take_step (i := 22) rfl (by kernel_rfl) (fun K' hK => ?_)
   go_simp
   go_at_call 47
   refine (RD.out _).mono ?_
   rintro e w5 ⟨b2, rfl, hbb, hb5⟩
   have H5 := Hi (And.intro hbb hb5)
   have g5 := RCells.below hHeld hb5
   clear hbb hb5
   refine hK.out _ _ (g5) (fun hHeld => ?_)
   clear hK K'
   try simp only [ly]
   refine ty1 23 hHeld ?_
   try simp only [ly]
   refine ty1 24 hHeld ?_
   try simp only [ly]
   refine ty1 25 hHeld ?_
   try simp only [ly]
   refine wpAnyH_done (by kernel_rfl) ?_ _
   refine HNEXT.out b2 _ _ _ _ _ _ _ _ _ _ _ _ _ _ _ _ _ _ _ _ _ _ _ _ _ ?_ (((Below.refl _ _).drew).trans (H4.out.2.trans (H5.out.2.mono H4.out.2.size))) g5
   rw [H5.out.1]
   exact ⟨fun h => ⟨HF.out, H4.out.1.1 (by first | rfl | trivial), h⟩, fun h => h.2.2⟩
end Go.Proofs.Ytkndmibmmoikbaa
namespace Go.Proofs.Ytkndmibmmoikbaa
open Go.RowKit
open Cox (Tl)
theorem nodup_le {α : Type} [DecidableEq α] : ∀ (l m : List α), l.Nodup → (∀ x, x ∈ l → x ∈ m) → l.length ≤ m.length
 | [], _, _, _ => Nat.zero_le _
 | a :: l, m, hn, hs => by
  have ha := hs a (List.mem_cons_self ..)
  rw [List.nodup_cons] at hn
  have h1 := nodup_le l (m.erase a) hn.2 (fun x hx => (List.mem_erase_of_ne (by rintro rfl; exact hn.1 hx)).2 (hs x (List.mem_cons_of_mem _ hx)))
  have h2 := List.length_erase_of_mem ha
  have h3 := List.length_pos_of_mem ha
  simp only [List.length_cons]
  omega
section
variable {K : Type} [Cox.OR K] {W : Cox.Tri K} {ws : List (List (Fin 3))} {gs : List (EdgeW × List (Fin 3))} {f : Nat → Nat → Int}
theorem f_at (hf : ∀ t (h : t < ws.length) (i : Fin 3), f t i.val = zidx ws (mv W gs ws[t] i)) {u : List (Fin 3)} (hu : u ∈ ws) (i : Fin 3) : f (uidx ws u) i.val = zidx ws (mv W gs u i) := by
 obtain ⟨_, h, he⟩ := uidx_mem hu
 have := hf _ h i
 rw [he] at this
 exact this
theorem f_eq (hf : ∀ t (h : t < ws.length) (i : Fin 3), f t i.val = zidx ws (mv W gs ws[t] i)) {u v : List (Fin 3)} (hu : u ∈ ws) (hv : v ∈ ws) (i : Fin 3) : f (uidx ws u) i.val = (uidx ws v : Int) ↔ mv W gs u i = v := by
 rw [f_at hf hu, (uidx_mem hv).1]
 exact ⟨fun h => (zidx_inj hv h.symm).symm, fun h => by rw [h]⟩
theorem rleads_iff (hf : ∀ t (h : t < ws.length) (i : Fin 3), f t i.val = zidx ws (mv W gs ws[t] i)) {us : List (List (Fin 3))} (hus : ∀ u, u ∈ us → u ∈ ws) (s t : Fin 3) {last : List (Fin 3)} (hl : last ∈ ws) :
 RLeads f (us.map (uidx ws)) s t (uidx ws last : Int) ↔ leadsP W gs us s t last := by
 have key : ∀ k (h : k < us.length), (f (uidx ws us[k]) (alt s t k).val = nxt (us.map (uidx ws)) k (uidx ws last : Int)) ↔ mv W gs (us.getD k []) (alt s t k) = us.getD (k + 1) last := by
  intro k h
  have e0 : us.getD k [] = us[k] := by rw [List.getD_eq_getElem?_getD, List.getElem?_eq_getElem h]; rfl
  rw [e0]
  unfold nxt
  by_cases h2 : k + 1 < us.length
  · rw [dif_pos (by simpa using h2), List.getElem_map]
    have e1 : us.getD (k + 1) last = us[k + 1] := by rw [List.getD_eq_getElem?_getD, List.getElem?_eq_getElem h2]; rfl
    rw [e1]
    exact f_eq hf (hus _ (List.getElem_mem h)) (hus _ (List.getElem_mem h2)) _
  · rw [dif_neg (by simpa using h2)]
    have e1 : us.getD (k + 1) last = last := by rw [List.getD_eq_getElem?_getD, List.getElem?_eq_none (by omega)]; rfl
    rw [e1]
    exact f_eq hf (hus _ (List.getElem_mem h)) hl _
 constructor
 · intro h k hk
   have := h k (by simpa using hk)
   rw [List.getElem_map] at this
   exact (key k hk).1 this
 · intro h k hk
   have hk2 : k < us.length := by simpa using hk
   rw [List.getElem_map]
   exact (key k hk2).2 (h k hk2)
end
theorem rright_any {K : Type} [Cox.OR K] {W : Cox.Tri K} {a b c : Int} (hord : Ords W a b c) (hrw : RW W a b c) (ws : List (List (Fin 3))) (hwl : ws.length ≤ 200) (v3 v4 : Value) (w : World) (pt pto ptt : Option Addr) (ct cto ctt : Nat) (hts : StrsAt w pt (ws.map wb)) (f : Nat → Nat → Int) (hto : TosAt w pto ws.length f)
 (gs : List (EdgeW × List (Fin 3))) (hf : ∀ t (h : t < ws.length) (i : Fin 3), f t i.val = zidx ws (mv W gs ws[t] i)) (y : CycD) (hty : StrsAt w ptt y.tiles) (hyl : y.tiles.length ≤ 1000) (hys : ∀ s, s ∈ y.tiles → s.size ≤ maxLen) :
 Calls Try.prog 18 #[lval a b c (.slice pt ws.length ct) pto ws.length cto v3 v4, cval ptt ctt y] w fun e w' => ∃ (pv : Value) (bb : Bool), e = .returned (.tuple #[pv, .bool bb]) ∧ Below w.heap.size w w' ∧ (bb = true ↔ CycOk W a b c ws gs y) ∧
  (bb = true → ∃ pj cj, pv = .slice pj y.tiles.length cj ∧ IntsAt w' pj ((tws W y.tiles).map fun u => (uidx ws u : Int)) ∧ ∀ q o, pj = some ⟨q, o, none⟩ → w.heap.size ≤ q) := by
 obtain ⟨Q, hQ⟩ : ∃ Q : Ending → World → Prop, Q = fun e w' => ∃ (pv : Value) (bb : Bool), e = .returned (.tuple #[pv, .bool bb]) ∧ Below w.heap.size w w' ∧ (bb = true ↔ CycOk W a b c ws gs y) ∧
  (bb = true → ∃ pj cj, pv = .slice pj y.tiles.length cj ∧ IntsAt w' pj ((tws W y.tiles).map fun u => (uidx ws u : Int)) ∧ ∀ q o, pj = some ⟨q, o, none⟩ → w.heap.size ≤ q) := ⟨_, rfl⟩
 rw [← hQ]
 have HNO : Hid (∀ w' v, ¬ CycOk W a b c ws gs y → Below w.heap.size w w' → Q (.returned (.tuple #[v, .bool false])) w') := Hi (fun w' v hx hb => by rw [hQ]; exact ⟨v, false, rfl, hb, ⟨fun h => (by cases h), fun h => (hx h).elim⟩, fun h => (by cases h)⟩)
 have HYES : Hid (∀ w' pj cj (b1 : Bool), (b1 = true ↔ CycOk W a b c ws gs y) → Below w.heap.size w w' → IntsAt w' pj ((tws W y.tiles).map fun u => (uidx ws u : Int)) → (∀ q o, pj = some ⟨q, o, none⟩ → w.heap.size ≤ q) → Q (.returned (.tuple #[.slice pj y.tiles.length cj, .bool b1])) w') := Hi (fun w' pj cj b1 h1 h2 h3 h4 => by rw [hQ]; exact ⟨_, b1, rfl, h2, h1, fun _ => ⟨pj, cj, rfl, h3, h4⟩⟩)
 clear hQ
 have IL := Hi (fun i w => rletter_any i w)
 have hb0 : Below w.heap.size w ((w.alloc (.cells #[.int .i64 a, .int .i64 b, .int .i64 c, .slice pt ws.length ct, .slice pto ws.length cto, v3, v4] 54)).alloc (.cells #[.slice ptt y.tiles.length ctt, .int .i64 y.i, .int .i64 y.j, .int .i64 y.rounds, .bool y.mir] 48)) := ((Below.refl _ _).alloc (Nat.le_refl _) _).alloc (by simp) _
 have hc0 : ((w.alloc (.cells #[.int .i64 a, .int .i64 b, .int .i64 c, .slice pt ws.length ct, .slice pto ws.length cto, v3, v4] 54)).alloc (.cells #[.slice ptt y.tiles.length ctt, .int .i64 y.i, .int .i64 y.j, .int .i64 y.rounds, .bool y.mir] 48)).heap[w.heap.size]? = some (.cells #[.int .i64 a, .int .i64 b, .int .i64 c, .slice pt ws.length ct, .slice pto ws.length cto, v3, v4] 54 (0, 0)) := str_old _ _ (str_new _ _ _ _ rfl)
 have hc1 : ((w.alloc (.cells #[.int .i64 a, .int .i64 b, .int .i64 c, .slice pt ws.length ct, .slice pto ws.length cto, v3, v4] 54)).alloc (.cells #[.slice ptt y.tiles.length ctt, .int .i64 y.i, .int .i64 y.j, .int .i64 y.rounds, .bool y.mir] 48)).heap[w.heap.size + 1]? = some (.cells #[.slice ptt y.tiles.length ctt, .int .i64 y.i, .int .i64 y.j, .int .i64 y.rounds, .bool y.mir] 48 (0, 0)) := str_new _ _ _ _ (by simp)
 have rp0 := rplaces_any hrw ws (by omega) (.slice pto ws.length cto) v3 v4 ((w.alloc (.cells #[.int .i64 a, .int .i64 b, .int .i64 c, .slice pt ws.length ct, .slice pto ws.length cto, v3, v4] 54)).alloc (.cells #[.slice ptt y.tiles.length ctt, .int .i64 y.i, .int .i64 y.j, .int .i64 y.rounds, .bool y.mir] 48)) pt ptt ct ctt (hts.below hb0) y (hty.below hb0) hyl hys
 have HF := Lib.hid hf
 have HTO := Hi (hto.below hb0)
 have HORD := Lib.hid hord
 unfold lval
 unfold cval at rp0 ⊢
 clear hts hto hf hty hys hrw hord
 go_enter Try.func18, Try.ntmps18
 go_upto_region 1 with fail
 generalize (w.alloc (.cells #[.int .i64 a, .int .i64 b, .int .i64 c, .slice pt ws.length ct, .slice pto ws.length cto, v3, v4] 54)).alloc (.cells #[.slice ptt y.tiles.length ctt, .int .i64 y.i, .int .i64 y.j, .int .i64 y.rounds, .bool y.mir] 48) = wb0 at *
 have HB := Hi (And.intro hb0 (And.intro hc0 hc1))
 have RP := Lib.hid rp0
 clear rp0
 have k0 : wb0.cell? ⟨w.heap.size, 0, none⟩ = some (.int .i64 a) := by rw [cell_of hc0]; rfl
 have k1 : wb0.cell? ⟨w.heap.size, 1, none⟩ = some (.int .i64 b) := by rw [cell_of hc0]; rfl
 have k2 : wb0.cell? ⟨w.heap.size, 2, none⟩ = some (.int .i64 c) := by rw [cell_of hc0]; rfl
 have k3 : wb0.cell? ⟨w.heap.size, 3, none⟩ = some (.slice pt ws.length ct) := by rw [cell_of hc0]; rfl
 have k4 : wb0.cell? ⟨w.heap.size, 4, none⟩ = some (.slice pto ws.length cto) := by rw [cell_of hc0]; rfl
 have k5 : wb0.cell? ⟨w.heap.size, 5, none⟩ = some v3 := by rw [cell_of hc0]; rfl
 have k6 : wb0.cell? ⟨w.heap.size, 6, none⟩ = some v4 := by rw [cell_of hc0]; rfl
 have l0 : wb0.cell? ⟨w.heap.size + 1, 0, none⟩ = some (.slice ptt y.tiles.length ctt) := by rw [cell_of hc1]; rfl
 have l1 : wb0.cell? ⟨w.heap.size + 1, 1, none⟩ = some (.int .i64 y.i) := by rw [cell_of hc1]; rfl
 have l2 : wb0.cell? ⟨w.heap.size + 1, 2, none⟩ = some (.int .i64 y.j) := by rw [cell_of hc1]; rfl
 have l3 : wb0.cell? ⟨w.heap.size + 1, 3, none⟩ = some (.int .i64 y.rounds) := by rw [cell_of hc1]; rfl
 have l4 : wb0.cell? ⟨w.heap.size + 1, 4, none⟩ = some (.bool y.mir) := by rw [cell_of hc1]; rfl
 have HK := Hi (And.intro k0 (And.intro k1 (And.intro k2 (And.intro k3 (And.intro k4 (And.intro k5 (And.intro k6 (And.intro l0 (And.intro l1 (And.intro l2 (And.intro l3 l4)))))))))))
 have HLE := Hi (show w.heap.size ≤ wb0.heap.size from hb0.size)
 clear hb0 hc0 hc1
 generalize hbl : w.heap.size = bl at k0 k1 k2 k3 k4 k5 k6 l0 l1 l2 l3 l4
 have HBL := Lib.hid hbl
 clear hbl
 by_cases hi : isMir y.i
 case neg =>
  have HN : Hid (¬ CycOk W a b c ws gs y) := Hi (fun e => hi e.1.1)
  have ILi := Hi (IL.out y.i)
  unfold isMir at hi
  rw [decide_eq_false hi] at ILi
  clear hi
  go_wp2_with (go_at_call 43; with_reducible refine (ILi.out _).mono ?_; rintro e w4 ⟨rfl, h4⟩; subst w4)
  exact HNO.out _ _ HN.out HB.out.1
 case pos =>
  have ILi := Hi (IL.out y.i)
  have HI := Lib.hid hi
  unfold isMir at hi
  rw [decide_eq_true hi] at ILi
  by_cases hj : isMir y.j
  case neg =>
   have HN : Hid (¬ CycOk W a b c ws gs y) := Hi (fun e => hj e.1.2.1)
   have ILj := Hi (IL.out y.j)
   unfold isMir at hj
   rw [decide_eq_false hj] at ILj
   clear hi hj
   go_wp2_with (first | (go_at_call 43; with_reducible refine (ILi.out _).mono ?_; rintro e w4 ⟨rfl, h4⟩; subst w4) | (go_at_call 43; with_reducible refine (ILj.out _).mono ?_; rintro e w4 ⟨rfl, h4⟩; subst w4))
   exact HNO.out _ _ HN.out HB.out.1
  case pos =>
   have ILj := Hi (IL.out y.j)
   have HJ := Lib.hid hj
   unfold isMir at hj
   rw [decide_eq_true hj] at ILj
   by_cases hij : y.i < y.j
   case neg =>
    have HN : Hid (¬ CycOk W a b c ws gs y) := Hi (fun e => hij e.1.2.2.1)
    have d0 : decide (y.i ≥ y.j) = true := decide_eq_true (by omega)
    clear hi hj hij
    go_wp2_with (first | (go_at_call 43; with_reducible refine (ILi.out _).mono ?_; rintro e w4 ⟨rfl, h4⟩; subst w4) | (go_at_call 43; with_reducible refine (ILj.out _).mono ?_; rintro e w4 ⟨rfl, h4⟩; subst w4))
    exact HNO.out _ _ HN.out HB.out.1
   case pos =>
    have HIJ := Lib.hid hij
    have d0 : decide (y.i ≥ y.j) = false := decide_eq_false (by omega)
    clear hi hj hij
    by_cases hw : y.words W ws ∧ 0 < y.tiles.length
    case neg =>
     have HN : Hid (¬ CycOk W a b c ws gs y) := Hi (fun e => hw ⟨e.2.1, e.1.2.2.2.1⟩)
     have RP2 : Hid (Calls Try.prog 44 #[.agg #[.int .i64 a, .int .i64 b, .int .i64 c, .slice pt ws.length ct, .slice pto ws.length cto, v3, v4], .agg #[.slice ptt y.tiles.length ctt, .int .i64 y.i, .int .i64 y.j, .int .i64 y.rounds, .bool y.mir]] wb0 fun e w' => ∃ pv, e = .returned (.tuple #[pv, .bool false]) ∧ Below wb0.heap.size wb0 w') := Hi (by
      refine RP.out.mono ?_
      rintro e w' ⟨pv, bb, rfl, h1, h2, _⟩
      cases bb with
      | false => exact ⟨pv, rfl, h1⟩
      | true => exact (hw (h2.1 rfl)).elim)
     clear RP hw
     go_wp2_with (first | (go_at_call 43; with_reducible refine (ILi.out _).mono ?_; rintro e w4 ⟨rfl, h4⟩; subst w4) | (go_at_call 43; with_reducible refine (ILj.out _).mono ?_; rintro e w4 ⟨rfl, h4⟩; subst w4) | (go_at_call 44; refine RP2.out.mono ?_; rintro e w5 ⟨pv, rfl, hb5⟩; have HB5 := Lib.hid hb5; clear hb5))
     exact HNO.out _ _ HN.out (HB.out.1.trans (HB5.out.mono HLE.out))
    case pos =>
     have RP2 : Hid (Calls Try.prog 44 #[.agg #[.int .i64 a, .int .i64 b, .int .i64 c, .slice pt ws.length ct, .slice pto ws.length cto, v3, v4], .agg #[.slice ptt y.tiles.length ctt, .int .i64 y.i, .int .i64 y.j, .int .i64 y.rounds, .bool y.mir]] wb0 fun e w' => ∃ pb po cj, e = .returned (.tuple #[.slice (some ⟨pb, po, none⟩) y.tiles.length cj, .bool true]) ∧ Below wb0.heap.size wb0 w' ∧ IntsAt w' (some ⟨pb, po, none⟩) ((tws W y.tiles).map fun u => (uidx ws u : Int)) ∧ w'.cell? ⟨bl, 0, none⟩ = some (.int .i64 a) ∧ w'.cell? ⟨bl, 1, none⟩ = some (.int .i64 b) ∧ w'.cell? ⟨bl, 2, none⟩ = some (.int .i64 c) ∧ w'.cell? ⟨bl + 1, 1, none⟩ = some (.int .i64 y.i) ∧ w'.cell? ⟨bl + 1, 2, none⟩ = some (.int .i64 y.j) ∧ w.heap.size ≤ pb) := Hi (by
      refine RP.out.mono ?_
      rintro e w' ⟨pv, bb, rfl, h1, h2, h3⟩
      have hbb := h2.2 hw
      subst hbb
      obtain ⟨pj, cj, rfl, h4, h5⟩ := h3 rfl
      obtain ⟨pb, po, rfl, _⟩ := h4 (by
       intro e
       have := congrArg List.length e
       rw [List.length_map, tws_length] at this
       simp at this
       have := hw.2
       simp_all)
      exact ⟨pb, po, cj, rfl, h1, h4, cell_stays h1 k0, cell_stays h1 k1, cell_stays h1 k2, cell_stays h1 l1, cell_stays h1 l2, Nat.le_trans HLE.out (h5 _ _ rfl)⟩)
     have HWD := Lib.hid hw
     have BW := Hi (fun w => between_any a b c y.i y.j HI.out HJ.out w)
     have HOO : Hid ((if y.i + y.j = 1 then a else if y.i + y.j = 3 then b else c) = ordz a b c y.i y.j) := Lib.hid rfl
     rw [HOO.out] at BW
     unfold oval at BW
     clear RP hw HOO
     obtain ⟨o, ho⟩ : ∃ o, ordz a b c y.i y.j = o := ⟨_, rfl⟩
     rw [ho] at BW
     have HO := Lib.hid ho
     clear ho
     go_upto_region 7 with (first | (go_at_call 43; with_reducible refine (ILi.out _).mono ?_; rintro e w4 ⟨rfl, h4⟩; subst w4) | (go_at_call 43; with_reducible refine (ILj.out _).mono ?_; rintro e w4 ⟨rfl, h4⟩; subst w4) | (go_at_call 44; refine RP2.out.mono ?_; rintro e w5 ⟨pb, po, cj, rfl, hb5, hia, m0, m1, m2, m3, m4, m5⟩; have HB5 := Hi (And.intro hb5 (And.intro hia m5)); clear hb5 hia m5) | (go_at_call 45; refine (BW.out _).mono ?_; rintro e w6 ⟨rfl, hb6⟩; have HB6 := Lib.hid hb6; clear hb6))
     have HW : Hid (∀ u, u ∈ tws W y.tiles → u ∈ ws) := Lib.hid HWD.out.1.2.1
     have HL0 : Hid (0 < y.tiles.length) := Lib.hid HWD.out.2
     have HB56 : Hid (Below wb0.heap.size wb0 w6) := Hi (HB5.out.1.trans (HB6.out.mono HB5.out.1.size))
     have HIA : Hid (IntsAt w6 (some ⟨pb, po, none⟩) ((tws W y.tiles).map fun u => (uidx ws u : Int))) := Hi (HB5.out.2.1.below HB6.out)
     have htl : (tws W y.tiles).length = y.tiles.length := tws_length W _
     obtain ⟨nl, hnl⟩ : ∃ nl, y.tiles.length = nl + 1 := ⟨y.tiles.length - 1, by have := HL0.out; omega⟩
     have hl00 : 0 < (tws W y.tiles).length := by omega
     have hlnl : nl < (tws W y.tiles).length := by omega
     obtain ⟨si, hsi⟩ : ∃ si : Fin 3, y.i = (si.val : Int) := ⟨mf y.i, mf_of HI.out⟩
     obtain ⟨sj, hsj⟩ : ∃ sj : Fin 3, y.j = (sj.val : Int) := ⟨mf y.j, mf_of HJ.out⟩
     have HSI := Hi (And.intro hsi hsj)
     have hsij : si ≠ sj := fun e => by have := HIJ.out; rw [hsi, hsj, e] at this; omega
     have hob : 0 ≤ o ∧ o ≤ 100 := by
      have h1 := HORD.out.eq si sj hsij
      have h2 := HORD.out.lt si sj
      rw [← HO.out]
      unfold ordz
      rw [hsi, hsj, h1]
      omega
     have hin0 := HW.out _ (List.getElem_mem hl00)
     have hinn := HW.out _ (List.getElem_mem hlnl)
     obtain ⟨tb, to_, hpto, htb⟩ := HTO.out.below HB56.out (by
      have := (uidx_mem hin0).2.1
      omega)
     have HC : Hid (RCells a b c (.slice pt ws.length ct) pto ws.length cto v3 v4 bl ptt y.tiles.length ctt y.i y.j y.rounds y.mir pb po nl tb to_ (uidx ws (tws W y.tiles)[0]) (uidx ws (tws W y.tiles)[nl]) si.val sj.val (f (uidx ws (tws W y.tiles)[0]) si.val) (f (uidx ws (tws W y.tiles)[0]) sj.val) w6) := Hi (by
      obtain ⟨k0, k1, k2, k3, k4, k5, k6, l0, l1, l2, l3, l4⟩ := HK.out
      rw [HBL.out] at k0 k1 k2 k3 k4 k5 k6 l0 l1 l2 l3 l4
      have hb := HB56.out
      obtain ⟨b', o', he, hii⟩ := HIA.out (by intro e; have := congrArg List.length e; simp at this; rw [this] at hl00; simp at hl00)
      simp only [Option.some.injEq, Addr.mk.injEq, and_true] at he
      obtain ⟨rfl, rfl⟩ := he
      have i0 := hii 0 (by simpa using hl00)
      have i1 := hii nl (by simpa using hlnl)
      rw [List.getElem_map] at i0 i1
      have hlt := (uidx_mem hin0).2.1
      exact ⟨cell_stays hb k0, cell_stays hb k1, cell_stays hb k2, cell_stays hb k3, cell_stays hb k4, cell_stays hb k5, cell_stays hb k6, cell_stays hb l0, cell_stays hb l1, cell_stays hb l2, cell_stays hb l3, cell_stays hb l4, i0, i1, ⟨hpto, htb _ _ hlt si.isLt⟩, htb _ _ hlt sj.isLt⟩)
     have hju : uidx ws (tws W y.tiles)[0] < ws.length := (uidx_mem hin0).2.1
     have LDA : Hid (∀ (s t : Fin 3) (last : List (Fin 3)), last ∈ ws → ∀ w1, Below w6.heap.size w6 w1 → Calls Try.prog 46 #[lval a b c (.slice pt ws.length ct) pto ws.length cto v3 v4, .slice (some ⟨pb, po, none⟩) y.tiles.length cj, .int .i64 (s.val : Int), .int .i64 (t.val : Int), .int .i64 (uidx ws last : Int)] w1 fun e w' => ∃ bb : Bool, e = .returned (.bool bb) ∧ (bb = true ↔ leadsP W gs (tws W y.tiles) s t last) ∧ Below w1.heap.size w1 w') := Hi (fun s t last hlast w1 hb1 => by
      have hb := hb1
      have hmm : ((tws W y.tiles).map fun u => (uidx ws u : Int)) = ((tws W y.tiles).map (uidx ws)).map fun j : Nat => (j : Int) := by rw [List.map_map]; rfl
      have hia := HIA.out.below hb
      rw [hmm] at hia
      have := rleads_any a b c (.slice pt ws.length ct) v3 v4 pto ws.length cto f w1 ((HTO.out.below HB56.out).below hb) (by omega) (some ⟨pb, po, none⟩) cj ((tws W y.tiles).map (uidx ws)) hia (fun j hj => by
       obtain ⟨u, hu, rfl⟩ := List.mem_map.1 hj
       exact (uidx_mem (HW.out u hu)).2.1) (by rw [List.length_map, htl]; exact hyl) s t (uidx ws last : Int)
      rw [List.length_map, htl] at this
      refine this.mono ?_
      rintro e w' ⟨bb, rfl, h1, h2⟩
      exact ⟨bb, rfl, h1.trans (rleads_iff HF.out HW.out s t hlast), h2⟩)
     have RDA : Hid (∀ (k : Int), k = 1 ∨ k = 2 → ∀ w1, Calls Try.prog 47 #[lval a b c (.slice pt ws.length ct) pto ws.length cto v3 v4, .agg #[.slice ptt y.tiles.length ctt, .int .i64 y.i, .int .i64 y.j, .int .i64 y.rounds, .bool y.mir], .int .i64 (y.tiles.length : Nat), .int .i64 (o * k)] w1 fun e w' => ∃ bb : Bool, e = .returned (.bool bb) ∧ (bb = true ↔ timesP y.tiles.length (o * k) y.rounds) ∧ Below w1.heap.size w1 w') := Hi (fun k hk w1 => by
      have := rrounds_any a b c (.slice pt ws.length ct) (.slice pto ws.length cto) v3 v4 w1 ptt ctt y HI.out HJ.out y.tiles.length hyl (o * k) (by rcases hk with rfl | rfl <;> omega)
      rw [HO.out] at this
      unfold cval at this
      refine this.mono ?_
      rintro e w' ⟨bb, rfl, h1, h2⟩
      exact ⟨bb, rfl, h1.trans (rtimes_iff hob.1 hk), h2⟩)
     have HOK : Hid (CycOk W a b c ws gs y ↔ ringP W gs (tws W y.tiles) si sj y.mir ∧ timesP y.tiles.length (o * (if y.mir = true then 1 else 2)) y.rounds) := Hi (by
      have e1 : mf y.i = si := by rw [hsi, mf_val]
      have e2 : mf y.j = sj := by rw [hsj, mf_val]
      unfold CycOk
      rw [e1, e2, HO.out]
      exact ⟨fun h => h.2.2, fun h => ⟨⟨HI.out, HJ.out, HIJ.out, HL0.out, by have := nodup_le _ ws HWD.out.1.2.2 HW.out; omega⟩, HWD.out.1, h⟩⟩)
     have HEND : Hid (∀ wx (b1 : Bool), (b1 = true ↔ CycOk W a b c ws gs y) → Below w6.heap.size w6 wx → Q (.returned (.tuple #[.slice (some ⟨pb, po, none⟩) y.tiles.length cj, .bool b1])) wx) := Hi (fun wx b1 h1 h2 => HYES.out _ _ _ _ h1 (HB.out.1.trans ((HB56.out.mono HLE.out).trans (h2.mono (by have := HB56.out.size; have := HLE.out; omega)))) (HIA.out.below h2) (fun q o hq => by have h8 := HB5.out.2.2; simp at hq; omega))
     have e0 : (tws W y.tiles).getD 0 [] = (tws W y.tiles)[0] := by rw [List.getD_eq_getElem?_getD, List.getElem?_eq_getElem hl00]; rfl
     have en : (tws W y.tiles).getD ((tws W y.tiles).length - 1) [] = (tws W y.tiles)[nl] := by
      have : (tws W y.tiles).length - 1 = nl := by omega
      rw [this, List.getD_eq_getElem?_getD, List.getElem?_eq_getElem hlnl]; rfl
     have HE0 := Hi (And.intro e0 (And.intro en htl))
     have HIN := Hi (And.intro hin0 hinn)
     have FE0 := Hi (fun i => f_eq HF.out hin0 hin0 i)
     generalize (tws W y.tiles)[0] = u0 at *
     generalize (tws W y.tiles)[nl] = un at *
     have HNL := Lib.hid hnl
     clear hnl e0 en htl hpto htb m0 m1 m2 m3 m4 k0 k1 k2 k3 k4 k5 k6 l0 l1 l2 l3 l4 hsi hsj hsij d0 hl00 hlnl hin0 hinn HK HB5 HB6 HTO RP2 BW ILi ILj
     go_upto_region 8 with fail
     have g4 := HC.out.d4
     obtain ⟨mb, hmb⟩ : ∃ mb, y.mir = mb := ⟨_, rfl⟩
     rw [hmb] at g4 HOK
     cases mb with
     | false =>
      simp only [Bool.false_eq_true, if_false] at HOK
      go_upto_region 9 with fail
      refine rright_t9 HSI.out.1 HSI.out.2 rfl rfl HC.out HL0.out hyl hob (Hi (fun w1 h1 => LDA.out si sj u0 HIN.out.1 w1 (((Below.refl _ _).drew).trans h1))) (Hi (fun w1 => by have := RDA.out 2 (.inr rfl) w1; rw [Int.mul_comm] at this; exact this)) (Hi (fun b1 wx x0 x1 x2 x3 x4 x5 x6 x7 x8 x9 x10 x11 x12 x13 x14 x15 x16 x17 x18 x19 x20 x21 x22 x23 hb1 hbel hcells => ?_))
      have HX := Hi (And.intro hb1 hbel)
      clear hb1 hbel hcells
      go_wp2_with fail
      refine HEND.out _ _ ?_ HX.out.2
      rw [HX.out.1, HOK.out, Int.mul_comm 2 o]
      unfold ringP
      rw [if_neg (by simp), HE0.out.2.2, HE0.out.1]
      exact ⟨fun h => ⟨⟨h.1, h.2.1⟩, h.2.2⟩, fun h => ⟨h.1.1, h.1.2, h.2⟩⟩
     | true =>
      simp only [if_true, Int.mul_one] at HOK
      go_upto_region 10 with fail
      refine rright_t10 HSI.out.1 HSI.out.2 rfl rfl HC.out HL0.out hyl HNL.out hju (by omega) (Hi (fun w1 h1 => LDA.out si sj un HIN.out.2 w1 (((Below.refl _ _).drew).trans h1))) (Hi (fun b1 wx x0 x1 x2 x3 x4 x5 x6 x7 x8 x9 x10 x11 x12 x13 x14 x15 x16 x17 x18 x19 x20 x21 x22 x23 x24 x25 x26 x27 hb1 hbel hcells => ?_))
      have HX := Hi (And.intro hb1 (And.intro hbel hcells))
      clear hb1 hbel hcells
      go_upto_region 11 with fail
      refine rright_t11 HSI.out.1 HSI.out.2 rfl rfl HX.out.2.2 HL0.out hyl HNL.out hju (by omega) (Hi (fun w1 h1 => LDA.out sj si un HIN.out.2 w1 (HX.out.2.1.trans ((((Below.refl _ _).drew).trans h1).mono HX.out.2.1.size)))) b1 (Hi (fun b2 wy y0 y1 y2 y3 y4 y5 y6 y7 y8 y9 y10 y11 y12 y13 y14 y15 y16 y17 y18 y19 y20 y21 y22 y23 y24 y25 y26 y27 hb2 hbel2 hcells2 => ?_))
      have HY := Hi (And.intro hb2 (HX.out.2.1.trans (hbel2.mono HX.out.2.1.size)))
      have g5 := hcells2
      have e0 := g5.c0
      have e1 := g5.c1
      have e2 := g5.c2
      have e3 := g5.c3
      have e4 := g5.c4
      have e5 := g5.c5
      have e6 := g5.c6
      have e7 := g5.d0
      have e8 := g5.d1
      have e9 := g5.d2
      have e10 := g5.d3
      have e11 := g5.d4
      rw [hmb] at e11
      have RD := Hi (RDA.out 1 (.inl rfl) wy)
      rw [Int.mul_one] at RD
      unfold lval at RD
      rw [hmb] at RD
      clear hb2 hbel2 hcells2 g5 g4
      have HRI : Hid (ringP W gs (tws W y.tiles) si sj true ↔ (b1 = true ∨ b2 = true)) := Hi (by
       rw [HX.out.1, HY.out.1, FE0.out sj, FE0.out si]
       unfold ringP onceP
       rw [if_pos rfl, HE0.out.1, HE0.out.2.1])
      by_cases hb : b1 = true ∨ b2 = true
      · have HRR := Hi (HRI.out.2 hb)
        have hb12 : b1 = true ∨ (b1 = false ∧ b2 = true) := by cases b1 <;> simp_all
        rcases hb12 with rfl | ⟨rfl, rfl⟩
        · clear hb HRI
          go_wp2_with (go_at_call 47; refine RD.out.mono ?_; rintro e w7 ⟨b3, rfl, hb3, hbel3⟩; have HZ := Hi (And.intro hb3 hbel3); clear hb3 hbel3)
          refine HEND.out _ _ ?_ (HY.out.2.trans (HZ.out.2.mono HY.out.2.size))
          rw [HZ.out.1, HOK.out]
          exact ⟨fun h => ⟨HRR.out, h⟩, fun h => h.2⟩
        · clear hb HRI
          go_wp2_with (go_at_call 47; refine RD.out.mono ?_; rintro e w7 ⟨b3, rfl, hb3, hbel3⟩; have HZ := Hi (And.intro hb3 hbel3); clear hb3 hbel3)
          refine HEND.out _ _ ?_ (HY.out.2.trans (HZ.out.2.mono HY.out.2.size))
          rw [HZ.out.1, HOK.out]
          exact ⟨fun h => ⟨HRR.out, h⟩, fun h => h.2⟩
      · have HRR := Hi (fun h => hb (HRI.out.1 h))
        have hb1 : b1 = false := by cases b1 <;> simp_all
        have hb2 : b2 = false := by cases b2 <;> simp_all
        subst hb1 hb2
        clear hb HRI RD
        go_wp2_with fail
        refine HEND.out _ _ ⟨fun h => (by cases h), fun h => (HRR.out ((HOK.out.1 h).1)).elim⟩ HY.out.2
end Go.Proofs.Ytkndmibmmoikbaa
