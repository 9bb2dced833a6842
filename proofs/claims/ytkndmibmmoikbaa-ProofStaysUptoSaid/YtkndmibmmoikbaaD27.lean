/- Chapter 10: Pr3b Pr3c Pr3d Pr3e. -/
import Derived.Test.YtkndmibmmoikbaaD26
import Derived.Deep.RegionHeld3
import Derived.Deep.RegionWith
import Derived.Deep.CutRange
set_option linter.all false
set_option maxRecDepth 100000
set_option maxHeartbeats 16000000
namespace Go.Proofs.Ytkndmibmmoikbaa
open Go.RowKit
open Cox (Tl)
def fromC (n : Nat) : Code → Option Code
 | .region i ops d => if i = n then some (.region i ops d) else none
 | .seq a b => match a with
  | .region i ops d => if i = n then some (.seq (.region i ops d) b) else fromC n b
  | _ => match fromC n a with
   | some c => some c
   | none => fromC n b
 | .cond _ a b => match fromC n a with
  | some c => some c
  | none => fromC n b
 | .block _ c => fromC n c
 | .loop c => fromC n c
 | _ => none
def onlyR (n : Nat) (x : Code) : Option Code := match fromC n x with
 | some (.seq a _) => some a
 | r => r
theorem take_yes {P : Program} {S : World → Prop} {Q : Exit → Act → World → Prop} {md : Region.Mode} {l : List Oper} {i : Nat} {oi : Oper} {v : Value} {fuel : Nat} {listed : Array Bool} {a : Act} {w : World} (hi : l[i]? = some oi)
 (hs : Region.noSelect l.toArray = true) (hf : Region.free md l.toArray listed i = true) (hr : (Region.ready md l.toArray listed).contains i = true)
 (hQ : ∀ c a w, Q (.panic c) (a.put oi.dst v) w → Q (.panic c) a w) (hw : Region.wanted oi (yielded l.toArray a.tmps) = true) (hy : ∀ w, S w → (execOp a.eval oi).run P w = .ok (.value v) w) (hS : S w)
 (h : wpAnyH P md l.toArray Q S fuel (listed.setIfInBounds i true) (a.put oi.dst v) w) : wpAnyH P md l.toArray Q S (fuel + 1) listed a w :=
 wpAnyH_take (by simpa using hi) hs hf hr hQ (.inl ⟨hw, hy⟩) hS h
theorem take_no {P : Program} {S : World → Prop} {Q : Exit → Act → World → Prop} {md : Region.Mode} {l : List Oper} {i : Nat} {oi : Oper} {fuel : Nat} {listed : Array Bool} {a : Act} {w : World} (hi : l[i]? = some oi)
 (hs : Region.noSelect l.toArray = true) (hf : Region.free md l.toArray listed i = true) (hr : (Region.ready md l.toArray listed).contains i = true)
 (hQ : ∀ c a w, Q (.panic c) (a.put oi.dst undef) w → Q (.panic c) a w) (hw : Region.wanted oi (yielded l.toArray a.tmps) = false) (hS : S w)
 (h : wpAnyH P md l.toArray Q S fuel (listed.setIfInBounds i true) (a.put oi.dst undef) w) : wpAnyH P md l.toArray Q S (fuel + 1) listed a w :=
 wpAnyH_take (by simpa using hi) hs hf hr hQ (.inr ⟨hw, rfl⟩) hS h
theorem take_step {P : Program} {S : World → Prop} {Q : Exit → Act → World → Prop} {md : Region.Mode} {l : List Oper} {i : Nat} {oi : Oper} {fuel : Nat} {listed : Array Bool} {a : Act} {w : World} (hi : l[i]? = some oi)
 (hr : Region.ready md l.toArray listed = [i])
 (h : ∀ K' : Act → World → Prop, Shut (∀ a w, S w → (S w → wpAnyH P md l.toArray Q S fuel (listed.setIfInBounds i true) a w) → K' a w) → if Region.wanted oi (yielded l.toArray a.tmps) = true then Oper.wp P oi a w K' Q else K' (a.put oi.dst undef) w) :
 wpAnyH P md l.toArray Q S (fuel + 1) listed a w :=
 wpAnyH_ready hr (by simp) (AllReadyH.cons (by simpa using hi) h AllReadyH.nil)
theorem ty0 {P : Program} {S : World → Prop} {Q : Exit → Act → World → Prop} {md : Region.Mode} {l : List Oper} (i : Nat) {oi : Oper} (v : Value) {fuel : Nat} {listed : Array Bool} {a : Act} {w : World} (hy : ∀ w, S w → (execOp a.eval oi).run P w = .ok (.value v) w) (hS : S w)
 (h : wpAnyH P md l.toArray Q S fuel (listed.setIfInBounds i true) (a.put oi.dst v) w) (hi : l[i]? = some oi := by rfl) (hs : Region.noSelect l.toArray = true := by kernel_rfl) (hf : Region.free md l.toArray listed i = true := by kernel_rfl) (hr : (Region.ready md l.toArray listed).contains i = true := by kernel_rfl)
 (hQ : ∀ c a w, Q (.panic c) (a.put oi.dst v) w → Q (.panic c) a w := by first | exact fun _ _ _ h => h | exact fun _ _ _ h => (nomatch h.1)) (hw : Region.wanted oi (yielded l.toArray a.tmps) = true := by kernel_rfl) : wpAnyH P md l.toArray Q S (fuel + 1) listed a w :=
 take_yes hi hs hf hr hQ hw hy hS h
theorem ty {P : Program} {S : World → Prop} {Q : Exit → Act → World → Prop} {md : Region.Mode} {l : List Oper} (i : Nat) {oi : Oper} {v : Value} {fuel : Nat} {listed : Array Bool} {a : Act} {w : World} (hS : S w)
 (h : wpAnyH P md l.toArray Q S fuel (listed.setIfInBounds i true) (a.put oi.dst v) w) (hi : l[i]? = some oi := by rfl) (hy : ∀ w, S w → (execOp a.eval oi).run P w = .ok (.value v) w := by (intro w' hw'; (try dsimp only at hw'); go_simp <;> with_reducible rfl)) (hs : Region.noSelect l.toArray = true := by kernel_rfl) (hf : Region.free md l.toArray listed i = true := by kernel_rfl) (hr : (Region.ready md l.toArray listed).contains i = true := by kernel_rfl)
 (hQ : ∀ c a w, Q (.panic c) (a.put oi.dst v) w → Q (.panic c) a w := by first | exact fun _ _ _ h => h | exact fun _ _ _ h => (nomatch h.1)) (hw : Region.wanted oi (yielded l.toArray a.tmps) = true := by kernel_rfl) : wpAnyH P md l.toArray Q S (fuel + 1) listed a w :=
 take_yes hi hs hf hr hQ hw hy hS h
theorem tn {P : Program} {S : World → Prop} {Q : Exit → Act → World → Prop} {md : Region.Mode} {l : List Oper} (i : Nat) {oi : Oper} {fuel : Nat} {listed : Array Bool} {a : Act} {w : World} (hS : S w)
 (h : wpAnyH P md l.toArray Q S fuel (listed.setIfInBounds i true) (a.put oi.dst undef) w) (hi : l[i]? = some oi := by rfl) (hs : Region.noSelect l.toArray = true := by kernel_rfl) (hf : Region.free md l.toArray listed i = true := by kernel_rfl) (hr : (Region.ready md l.toArray listed).contains i = true := by kernel_rfl)
 (hQ : ∀ c a w, Q (.panic c) (a.put oi.dst undef) w → Q (.panic c) a w := by first | exact fun _ _ _ h => h | exact fun _ _ _ h => (nomatch h.1)) (hw : Region.wanted oi (yielded l.toArray a.tmps) = false := by kernel_rfl) : wpAnyH P md l.toArray Q S (fuel + 1) listed a w :=
 take_no hi hs hf hr hQ hw hS h
theorem ly : (∀ (a : Act) (i : Nat) (v : Value), a.put (some i) v = ⟨a.tmps.setIfInBounds i v, a.defers⟩) ∧ (∀ (a : Act) (v : Value), a.put none v = a) ∧ (∀ (l : List Value) (i : Nat) (v : Value), l.toArray.setIfInBounds i v = (l.set i v).toArray) ∧ (∀ (x : Value) (l : List Value) (v : Value), (x :: l).set 0 v = v :: l) ∧
 (∀ (l : List Bool) (i : Nat) (v : Bool), l.toArray.setIfInBounds i v = (l.set i v).toArray) ∧ (∀ (x : Bool) (l : List Bool) (v : Bool), (x :: l).set 0 v = v :: l) ∧ (∀ (x : Value) (l : List Value) (n : Nat) (v : Value), (x :: l).set (n + 1) v = x :: l.set n v) ∧ (∀ (x : Bool) (l : List Bool) (n : Nat) (v : Bool), (x :: l).set (n + 1) v = x :: l.set n v) :=
 ⟨fun _ _ _ => rfl, fun _ _ => rfl, fun l i v => by simp, fun _ _ _ => rfl, fun l i v => by simp, fun _ _ _ => rfl, fun _ _ _ _ => rfl, fun _ _ _ _ => rfl⟩
noncomputable def right15 : Code := (Try.f23.body.bind (onlyR 15)).getD .skip
section
variable {K : Type} [Cox.OR K] {W : Cox.Tri K}
variable {B : Nat} {a b c : Int} {L p F M MP Wk : Nat} {w : World} {D : Dict} {ws : List (List (Fin 3))} {xs : List Nat} {rv wv pv : Value} {gs : List (EdgeW × List (Fin 3))} {A : List (Fin 3) → Nat} {y : CycD}
theorem right_t15 {Q : Ending → World → Prop} {K0 K2 : Act → World → Prop} (HO : Hid (Ords W a b c)) (hl0 : 0 < y.tiles.length) (hl2 : y.tiles.length ≤ 1000) {pt : Option Addr} {ct : Nat} {oc : Obj} (HOC : Hid (oc = .cells #[.slice pt y.tiles.length ct, .int .i64 y.i, .int .i64 y.j, .int .i64 y.rounds, .bool y.mir] 48 (0, 0)))
 {D' : Dict} {g cap : Nat} {ys : List Nat} {wz : World} (HZ2 : Hid (RtSt W B a b c L p F M MP Wk w D ws xs rv wv pv gs A y oc y.tiles.length D' (.slice (some ⟨g, 0, none⟩) y.tiles.length cap) ys wz)) {m0 : Int} {si sj : Fin 3} (HSI : Hid (y.i = (si.val : Int) ∧ y.j = (sj.val : Int)))
 (HLEN : Hid (∀ i, ((tws W y.tiles).getD i []).length < 90000)) {u1 u2 u4 u6 u7 u8 u9 u12 u13 u14 u15 u16 u17 u18 u19 u20 u21 u22 u23 u24 u25 u26 u27 u28 u29 u30 u31 u32 u33 u34 u35 u36 u37 u38 u39 u40 u41 u42 u43 u44 u45 u46 u47 u48 u49 u50 u51 u52 u53 u54 u55 u56 u57 u58 u59 u60 u61 u62 u63 u64 u65 u66 u67 u68 u69 u70 u71 u72 u73 u74 u75 u76 u77 u78 u79 u80 u81 u82 u83 u84 u85 u86 u87 u88 u89 u90 u91 u92 u93 u94 u95 u96 u97 u98 u99 u100 u101 u102 u103 u104 u105 u106 u107 u108 u109 u110 u111 u112 u113 u114 u115 u116 u117 u118 u119 u120 u121 u122 u123 u124 u125 u126 u127 u128 u129 u130 u131 u132 u133 u134 u135 u136 u137 u138 u139 u140 u141 u142 u143 u144 u145 u146 u147 u148 u149 u150 u151 u152 u153 u154 u155 u156 u157 u158 u159 u160 u161 u162 u163 u164 u165 u166 u167 u168 u169 u170 u171 u172 u173 u174 u175 u176 u177 u178 u179 u180 u181 u182 u183 u184 u185 u186 u187 u188 u189 u190 u191 u192 u193 u194 u195 u196 u197 u198 u199 u200 u201 u202 u203 u204 u205 u206 u207 u208 : Value}
 (HNEXT : Hid (∀ (b1 : Bool) (D2 : Dict) (wx : World) (v117 v118 v119 v120 v121 v122 v123 v124 v125 v126 v127 v128 v129 v130 v131 v132 v133 v134 v135 v136 v137 v138 v139 v140 v141 : Value), (b1 = true ↔ onceP W gs (tws W y.tiles) si sj) → RtSt W B a b c L p F M MP Wk w D ws xs rv wv pv gs A y oc y.tiles.length D2 (.slice (some ⟨g, 0, none⟩) y.tiles.length cap) ys wx → K0 ⟨#[.pointer (some ⟨Wk, 0, none⟩), u1, u2, .pointer (some ⟨w.heap.size, 0, none⟩), u4, .slice (some ⟨g, 0, none⟩) y.tiles.length cap, u6, u7, u8, u9, .int .i64 (y.tiles.length : Int), .int .i64 m0, .bool b1, u13, u14, u15, u16, u17, u18, u19, u20, u21, u22, u23, u24, u25, u26, u27, u28, u29, u30, u31, u32, u33, u34, u35, u36, u37, u38, u39, u40, u41, u42, u43, u44, u45, u46, u47, u48, u49, u50, u51, u52, u53, u54, u55, u56, u57, u58, u59, u60, u61, u62, u63, u64, u65, u66, u67, u68, u69, u70, u71, u72, u73, u74, u75, u76, u77, u78, u79, u80, u81, u82, u83, u84, u85, u86, u87, u88, u89, u90, u91, u92, u93, u94, u95, u96, u97, u98, u99, u100, u101, u102, u103, u104, u105, u106, u107, u108, u109, u110, u111, u112, u113, u114, u115, u116, v117, v118, v119, v120, v121, v122, v123, v124, v125, v126, v127, v128, v129, v130, v131, v132, v133, v134, v135, v136, v137, v138, v139, v140, v141, u142, u143, u144, u145, u146, u147, u148, u149, u150, u151, u152, u153, u154, u155, u156, u157, u158, u159, u160, u161, u162, u163, u164, u165, u166, u167, u168, u169, u170, u171, u172, u173, u174, u175, u176, u177, u178, u179, u180, u181, u182, u183, u184, u185, u186, u187, u188, u189, u190, u191, u192, u193, u194, u195, u196, u197, u198, u199, u200, u201, u202, u203, u204, u205, u206, u207, u208], []⟩ wx)) :
 Code.wp Try.prog right15 (Exit.then K0 (Exit.then K2 (bodyPost Try.prog Try.f23 Q))) ⟨#[.pointer (some ⟨Wk, 0, none⟩), u1, u2, .pointer (some ⟨w.heap.size, 0, none⟩), u4, .slice (some ⟨g, 0, none⟩) y.tiles.length cap, u6, u7, u8, u9, .int .i64 (y.tiles.length : Int), .int .i64 m0, u12, u13, u14, u15, u16, u17, u18, u19, u20, u21, u22, u23, u24, u25, u26, u27, u28, u29, u30, u31, u32, u33, u34, u35, u36, u37, u38, u39, u40, u41, u42, u43, u44, u45, u46, u47, u48, u49, u50, u51, u52, u53, u54, u55, u56, u57, u58, u59, u60, u61, u62, u63, u64, u65, u66, u67, u68, u69, u70, u71, u72, u73, u74, u75, u76, u77, u78, u79, u80, u81, u82, u83, u84, u85, u86, u87, u88, u89, u90, u91, u92, u93, u94, u95, u96, u97, u98, u99, u100, u101, u102, u103, u104, u105, u106, u107, u108, u109, u110, u111, u112, u113, u114, u115, u116, u117, u118, u119, u120, u121, u122, u123, u124, u125, u126, u127, u128, u129, u130, u131, u132, u133, u134, u135, u136, u137, u138, u139, u140, u141, u142, u143, u144, u145, u146, u147, u148, u149, u150, u151, u152, u153, u154, u155, u156, u157, u158, u159, u160, u161, u162, u163, u164, u165, u166, u167, u168, u169, u170, u171, u172, u173, u174, u175, u176, u177, u178, u179, u180, u181, u182, u183, u184, u185, u186, u187, u188, u189, u190, u191, u192, u193, u194, u195, u196, u197, u198, u199, u200, u201, u202, u203, u204, u205, u206, u207, u208], []⟩ wz := by
 have HC2 : Hid (∀ (wx : World) (Dx : Dict), RtSt W B a b c L p F M MP Wk w D ws xs rv wv pv gs A y oc y.tiles.length Dx (.slice (some ⟨g, 0, none⟩) y.tiles.length cap) ys wx → wx.cell? ⟨w.heap.size, 1, none⟩ = some (.int .i64 (si.val : Int)) ∧ wx.cell? ⟨w.heap.size, 2, none⟩ = some (.int .i64 (sj.val : Int)) ∧ (∀ i x, ys[i]? = some x → wx.cell? ⟨g, i, none⟩ = some (.pointer (some ⟨x, 0, none⟩)))) := Hi (fun wx Dx hx => by
  have := hx.box
  rw [HOC.out, HSI.out.1, HSI.out.2] at this
  exact ⟨by rw [cell_of this]; rfl, by rw [cell_of this]; rfl, fun i x hi => hx.row_at hi⟩)
 have hyl := HZ2.out.ylen (Nat.le_refl _)
 have hne : 0 < ys.length := by omega
 obtain ⟨x0, hx0⟩ : ∃ x0, ys[0]? = some x0 := ⟨ys[0], List.getElem?_eq_getElem hne⟩
 obtain ⟨nl, hnl⟩ : ∃ nl, y.tiles.length = nl + 1 := ⟨y.tiles.length - 1, by omega⟩
 have n1 : (y.tiles.length : Int) - 1 = (nl : Int) := by omega
 have n2 : (nl : Int) < (y.tiles.length : Int) := by omega
 have n3 : (0 : Int) ≤ (nl : Int) := by omega
 have n4 : IntKind.i64.wrap ((y.tiles.length : Int) - 1) = (nl : Int) := by rw [IntKind.wrap_i64]; omega
 have n5 : IntKind.i64.wrap (nl : Int) = (nl : Int) := by rw [IntKind.wrap_i64]; omega
 have n6 : (0 : Int) ≤ (y.tiles.length : Int) - 1 := by omega
 have n7 : (y.tiles.length : Int) - 1 < (y.tiles.length : Int) := by omega
 have n8 : ((y.tiles.length : Int) - 1).toNat = nl := by omega
 have n9 : (0 : Int) < (y.tiles.length : Int) := by omega
 have HNL : Hid (nl < y.tiles.length ∧ y.tiles.length ≤ 1000 ∧ y.tiles.length - 1 = nl) := Lib.hid ⟨by omega, by omega, by omega⟩
 obtain ⟨xn, hxn⟩ : ∃ xn, ys[nl]? = some xn := ⟨ys[nl]'(by omega), List.getElem?_eq_getElem (by omega)⟩
 clear hnl
 have HX := Hi (And.intro hx0 hxn)
 clear hx0 hxn
 have HD := Hi (HZ2.out.below (w2 := wz.drew) ((Below.refl _ _).drew))
 have f0 := (HC2.out _ _ HD.out).2.2 _ _ HX.out.1
 have fn := (HC2.out _ _ HD.out).2.2 _ _ HX.out.2
 obtain ⟨c1, c2, _⟩ := HC2.out _ _ HD.out
 have ST := HD.out.stepc HO.out hl0 HLEN.out HX.out.1 sj
 have LD := Hi (fun w3 D2 (h3 : RtSt W B a b c L p F M MP Wk w D ws xs rv wv pv gs A y oc y.tiles.length D2 (.slice (some ⟨g, 0, none⟩) y.tiles.length cap) ys w3) => RtSt.leads HO.out h3 HLEN.out HNL.out.2.1 HNL.out.1 HX.out.2 si sj)
 clear hyl hne hl2
 conv => arg 2; whnf
 by_cases hm1 : mv W gs ((tws W y.tiles).getD 0 []) sj = (tws W y.tiles).getD 0 []
 case pos =>
  have ST := Lib.hid ST
  have hself := eql_self x0
  have HM1 := Lib.hid hm1
  clear hm1
  refine wp_region_held_drew (S := fun w' => w'.cell? ⟨g, 0, none⟩ = some (.pointer (some ⟨x0, 0, none⟩)) ∧ w'.cell? ⟨w.heap.size, 1, none⟩ = some (.int .i64 (si.val : Int)) ∧ w'.cell? ⟨w.heap.size, 2, none⟩ = some (.int .i64 (sj.val : Int)) ∧ w'.cell? ⟨g, nl, none⟩ = some (.pointer (some ⟨xn, 0, none⟩))) (by kernel_rfl) (⟨f0, c1, c2, fn⟩) (fun hHeld => ?_)
  refine ty 0 hHeld ?_
  try simp only [ly]
  refine ty 1 hHeld ?_
  try simp only [ly]
  refine ty 2 hHeld ?_
  try simp only [ly]
  refine ty 3 hHeld ?_
  try simp only [ly]
  refine ty 4 hHeld ?_
  try simp only [ly]
  refine ty 5 hHeld ?_
  try simp only [ly]
  refine ty 7 hHeld ?_
  try simp only [ly]
  refine ty 8 hHeld ?_
  try simp only [ly]
  refine ty 9 hHeld ?_
  try simp only [ly]
  refine take_step (i := 6) rfl (by kernel_rfl) (fun K' hK => ?_)
  go_simp
  go_at_call 51
  refine ST.out.mono ?_
  rintro e w3 ⟨D2, y2, rfl, h3, _, hy2⟩
  obtain rfl := hy2 HM1.out
  have H3 := Lib.hid h3
  have g0 := (HC2.out _ _ h3).2.2 _ _ HX.out.1
  obtain ⟨g1, g2, _⟩ := HC2.out _ _ h3
  have g3 := (HC2.out _ _ h3).2.2 _ _ HX.out.2
  have LD3 := Hi (LD.out _ _ h3)
  clear h3
  refine hK.out _ _ (⟨g0, g1, g2, g3⟩) (fun hHeld => ?_)
  clear hK K'
  try simp only [ly]
  refine ty 10 hHeld ?_
  try simp only [ly]
  refine ty 11 hHeld ?_
  try simp only [ly]
  refine ty 12 hHeld ?_
  try simp only [ly]
  refine ty 13 hHeld ?_
  try simp only [ly]
  refine ty 14 hHeld ?_
  try simp only [ly]
  refine ty 15 hHeld ?_
  try simp only [ly]
  refine ty 16 hHeld ?_
  try simp only [ly]
  refine ty 17 hHeld ?_
  try simp only [ly]
  refine ty 18 hHeld ?_
  try simp only [ly]
  refine ty 19 hHeld ?_
  try simp only [ly]
  refine ty 20 hHeld ?_
  try simp only [ly]
  refine ty 21 hHeld ?_
  try simp only [ly]
  refine ty 22 hHeld ?_
  try simp only [ly]
  refine take_step (i := 23) rfl (by kernel_rfl) (fun K' hK => ?_)
  go_simp
  go_at_call 52
  refine LD3.out.mono ?_
  rintro e w4 ⟨bb, D4, rfl, hbb, h4⟩
  have H4 := Hi (And.intro hbb h4)
  have e0 := (HC2.out _ _ h4).2.2 _ _ HX.out.1
  obtain ⟨e1, e2, _⟩ := HC2.out _ _ h4
  have e3 := (HC2.out _ _ h4).2.2 _ _ HX.out.2
  clear hbb h4
  refine hK.out _ _ (⟨e0, e1, e2, e3⟩) (fun hHeld => ?_)
  clear hK K'
  try simp only [ly]
  refine ty 24 hHeld ?_
  try simp only [ly]
  refine ty 25 hHeld ?_
  try simp only [ly]
  refine wpAnyH_done (by kernel_rfl) ?_ _
  refine HNEXT.out bb D4 _ _ _ _ _ _ _ _ _ _ _ _ _ _ _ _ _ _ _ _ _ _ _ _ _ _ ?_ H4.out.2
  rw [H4.out.1]
  unfold onceP
  rw [tws_length, HNL.out.2.2]
  exact ⟨fun h => ⟨HM1.out, h⟩, fun h => h.2⟩
 case neg =>
  rw [decide_eq_false hm1] at ST
  have ST := Lib.hid ST
  have HM1 := Lib.hid hm1
  clear hm1 LD
  have f0z : wz.cell? ⟨g, 0, none⟩ = some (.pointer (some ⟨x0, 0, none⟩)) := f0
  have c1z : wz.cell? ⟨w.heap.size, 1, none⟩ = some (.int .i64 (si.val : Int)) := c1
  have c2z : wz.cell? ⟨w.heap.size, 2, none⟩ = some (.int .i64 (sj.val : Int)) := c2
  refine wp_region_held_drew (S := fun w' => w'.cell? ⟨g, 0, none⟩ = some (.pointer (some ⟨x0, 0, none⟩)) ∧ w'.cell? ⟨w.heap.size, 1, none⟩ = some (.int .i64 (si.val : Int)) ∧ w'.cell? ⟨w.heap.size, 2, none⟩ = some (.int .i64 (sj.val : Int))) (by kernel_rfl) (⟨f0, c1, c2⟩) (fun hHeld => ?_)
  refine ty 0 hHeld ?_
  try simp only [ly]
  refine ty 1 hHeld ?_
  try simp only [ly]
  refine ty 2 hHeld ?_
  try simp only [ly]
  refine ty 3 hHeld ?_
  try simp only [ly]
  refine ty 4 hHeld ?_
  try simp only [ly]
  refine ty 5 hHeld ?_
  try simp only [ly]
  refine ty 7 hHeld ?_
  try simp only [ly]
  refine ty 8 hHeld ?_
  try simp only [ly]
  refine ty 9 hHeld ?_
  try simp only [ly]
  refine take_step (i := 6) rfl (by kernel_rfl) (fun K' hK => ?_)
  go_simp
  go_at_call 51
  refine ST.out.mono ?_
  rintro e w3 ⟨D2, y2, rfl, h3, heq, _⟩
  have H3 := Lib.hid h3
  have g0 := (HC2.out _ _ h3).2.2 _ _ HX.out.1
  obtain ⟨g1, g2, _⟩ := HC2.out _ _ h3
  clear h3
  refine hK.out _ _ (⟨g0, g1, g2⟩) (fun hHeld => ?_)
  clear hK K'
  try simp only [ly]
  refine take_step (i := 10) rfl (by kernel_rfl) (fun K' hK => ?_)
  go_simp
  refine hK.out _ _ (⟨g0, g1, g2⟩) (fun hHeld => ?_)
  clear hK K'
  try simp only [ly]
  refine ty 11 hHeld ?_
  try simp only [ly]
  refine tn 12 hHeld ?_
  try simp only [ly]
  refine tn 13 hHeld ?_
  try simp only [ly]
  refine tn 14 hHeld ?_
  try simp only [ly]
  refine tn 15 hHeld ?_
  try simp only [ly]
  refine tn 16 hHeld ?_
  try simp only [ly]
  refine tn 17 hHeld ?_
  try simp only [ly]
  refine tn 18 hHeld ?_
  try simp only [ly]
  refine tn 19 hHeld ?_
  try simp only [ly]
  refine tn 20 hHeld ?_
  try simp only [ly]
  refine tn 21 hHeld ?_
  try simp only [ly]
  refine tn 22 hHeld ?_
  try simp only [ly]
  refine tn 23 hHeld ?_
  try simp only [ly]
  refine ty 24 hHeld ?_
  try simp only [ly]
  refine ty 25 hHeld ?_
  try simp only [ly]
  refine wpAnyH_done (by kernel_rfl) ?_ _
  refine HNEXT.out false D2 _ _ _ _ _ _ _ _ _ _ _ _ _ _ _ _ _ _ _ _ _ _ _ _ _ _ ⟨fun h => (by cases h), fun h => (HM1.out h.1).elim⟩ H3.out
end
end Go.Proofs.Ytkndmibmmoikbaa
namespace Go.Proofs.Ytkndmibmmoikbaa
open Go.RowKit
open Cox (Tl)
noncomputable def right16 : Code := (Try.f23.body.bind (onlyR 16)).getD .skip
section
variable {K : Type} [Cox.OR K] {W : Cox.Tri K}
variable {B : Nat} {a b c : Int} {L p F M MP Wk : Nat} {w : World} {D : Dict} {ws : List (List (Fin 3))} {xs : List Nat} {rv wv pv : Value} {gs : List (EdgeW × List (Fin 3))} {A : List (Fin 3) → Nat} {y : CycD}
theorem right_t16 {Q : Ending → World → Prop} {K0 K2 : Act → World → Prop} (HO : Hid (Ords W a b c)) (hl0 : 0 < y.tiles.length) (hl2 : y.tiles.length ≤ 1000) {pt : Option Addr} {ct : Nat} {oc : Obj} (HOC : Hid (oc = .cells #[.slice pt y.tiles.length ct, .int .i64 y.i, .int .i64 y.j, .int .i64 y.rounds, .bool y.mir] 48 (0, 0)))
 {D' : Dict} {g cap : Nat} {ys : List Nat} {wz : World} (HZ2 : Hid (RtSt W B a b c L p F M MP Wk w D ws xs rv wv pv gs A y oc y.tiles.length D' (.slice (some ⟨g, 0, none⟩) y.tiles.length cap) ys wz)) {m0 : Int} {si sj : Fin 3} (HSI : Hid (y.i = (si.val : Int) ∧ y.j = (sj.val : Int)))
 (HLEN : Hid (∀ i, ((tws W y.tiles).getD i []).length < 90000)) {u1 u2 u4 u6 u7 u8 u9 u13 u14 u15 u16 u17 u18 u19 u20 u21 u22 u23 u24 u25 u26 u27 u28 u29 u30 u31 u32 u33 u34 u35 u36 u37 u38 u39 u40 u41 u42 u43 u44 u45 u46 u47 u48 u49 u50 u51 u52 u53 u54 u55 u56 u57 u58 u59 u60 u61 u62 u63 u64 u65 u66 u67 u68 u69 u70 u71 u72 u73 u74 u75 u76 u77 u78 u79 u80 u81 u82 u83 u84 u85 u86 u87 u88 u89 u90 u91 u92 u93 u94 u95 u96 u97 u98 u99 u100 u101 u102 u103 u104 u105 u106 u107 u108 u109 u110 u111 u112 u113 u114 u115 u116 u117 u118 u119 u120 u121 u122 u123 u124 u125 u126 u127 u128 u129 u130 u131 u132 u133 u134 u135 u136 u137 u138 u139 u140 u141 u142 u143 u144 u145 u146 u147 u148 u149 u150 u151 u152 u153 u154 u155 u156 u157 u158 u159 u160 u161 u162 u163 u164 u165 u166 u167 u168 u169 u170 u171 u172 u173 u174 u175 u176 u177 u178 u179 u180 u181 u182 u183 u184 u185 u186 u187 u188 u189 u190 u191 u192 u193 u194 u195 u196 u197 u198 u199 u200 u201 u202 u203 u204 u205 u206 u207 u208 : Value} (b0 : Bool)
 (HNEXT : Hid (∀ (b1 : Bool) (D2 : Dict) (wx : World) (v142 v143 v144 v145 v146 v147 v148 v149 v150 v151 v152 v153 v154 v155 v156 v157 v158 v159 v160 v161 v162 v163 v164 v165 v166 : Value), (b1 = true ↔ onceP W gs (tws W y.tiles) sj si) → RtSt W B a b c L p F M MP Wk w D ws xs rv wv pv gs A y oc y.tiles.length D2 (.slice (some ⟨g, 0, none⟩) y.tiles.length cap) ys wx → K0 ⟨#[.pointer (some ⟨Wk, 0, none⟩), u1, u2, .pointer (some ⟨w.heap.size, 0, none⟩), u4, .slice (some ⟨g, 0, none⟩) y.tiles.length cap, u6, u7, u8, u9, .int .i64 (y.tiles.length : Int), .int .i64 m0, .bool b0, .bool b1, u14, u15, u16, u17, u18, u19, u20, u21, u22, u23, u24, u25, u26, u27, u28, u29, u30, u31, u32, u33, u34, u35, u36, u37, u38, u39, u40, u41, u42, u43, u44, u45, u46, u47, u48, u49, u50, u51, u52, u53, u54, u55, u56, u57, u58, u59, u60, u61, u62, u63, u64, u65, u66, u67, u68, u69, u70, u71, u72, u73, u74, u75, u76, u77, u78, u79, u80, u81, u82, u83, u84, u85, u86, u87, u88, u89, u90, u91, u92, u93, u94, u95, u96, u97, u98, u99, u100, u101, u102, u103, u104, u105, u106, u107, u108, u109, u110, u111, u112, u113, u114, u115, u116, u117, u118, u119, u120, u121, u122, u123, u124, u125, u126, u127, u128, u129, u130, u131, u132, u133, u134, u135, u136, u137, u138, u139, u140, u141, v142, v143, v144, v145, v146, v147, v148, v149, v150, v151, v152, v153, v154, v155, v156, v157, v158, v159, v160, v161, v162, v163, v164, v165, v166, u167, u168, u169, u170, u171, u172, u173, u174, u175, u176, u177, u178, u179, u180, u181, u182, u183, u184, u185, u186, u187, u188, u189, u190, u191, u192, u193, u194, u195, u196, u197, u198, u199, u200, u201, u202, u203, u204, u205, u206, u207, u208], []⟩ wx)) :
 Code.wp Try.prog right16 (Exit.then K0 (Exit.then K2 (bodyPost Try.prog Try.f23 Q))) ⟨#[.pointer (some ⟨Wk, 0, none⟩), u1, u2, .pointer (some ⟨w.heap.size, 0, none⟩), u4, .slice (some ⟨g, 0, none⟩) y.tiles.length cap, u6, u7, u8, u9, .int .i64 (y.tiles.length : Int), .int .i64 m0, .bool b0, u13, u14, u15, u16, u17, u18, u19, u20, u21, u22, u23, u24, u25, u26, u27, u28, u29, u30, u31, u32, u33, u34, u35, u36, u37, u38, u39, u40, u41, u42, u43, u44, u45, u46, u47, u48, u49, u50, u51, u52, u53, u54, u55, u56, u57, u58, u59, u60, u61, u62, u63, u64, u65, u66, u67, u68, u69, u70, u71, u72, u73, u74, u75, u76, u77, u78, u79, u80, u81, u82, u83, u84, u85, u86, u87, u88, u89, u90, u91, u92, u93, u94, u95, u96, u97, u98, u99, u100, u101, u102, u103, u104, u105, u106, u107, u108, u109, u110, u111, u112, u113, u114, u115, u116, u117, u118, u119, u120, u121, u122, u123, u124, u125, u126, u127, u128, u129, u130, u131, u132, u133, u134, u135, u136, u137, u138, u139, u140, u141, u142, u143, u144, u145, u146, u147, u148, u149, u150, u151, u152, u153, u154, u155, u156, u157, u158, u159, u160, u161, u162, u163, u164, u165, u166, u167, u168, u169, u170, u171, u172, u173, u174, u175, u176, u177, u178, u179, u180, u181, u182, u183, u184, u185, u186, u187, u188, u189, u190, u191, u192, u193, u194, u195, u196, u197, u198, u199, u200, u201, u202, u203, u204, u205, u206, u207, u208], []⟩ wz := by
 have HC2 : Hid (∀ (wx : World) (Dx : Dict), RtSt W B a b c L p F M MP Wk w D ws xs rv wv pv gs A y oc y.tiles.length Dx (.slice (some ⟨g, 0, none⟩) y.tiles.length cap) ys wx → wx.cell? ⟨w.heap.size, 1, none⟩ = some (.int .i64 (si.val : Int)) ∧ wx.cell? ⟨w.heap.size, 2, none⟩ = some (.int .i64 (sj.val : Int)) ∧ (∀ i x, ys[i]? = some x → wx.cell? ⟨g, i, none⟩ = some (.pointer (some ⟨x, 0, none⟩)))) := Hi (fun wx Dx hx => by
  have := hx.box
  rw [HOC.out, HSI.out.1, HSI.out.2] at this
  exact ⟨by rw [cell_of this]; rfl, by rw [cell_of this]; rfl, fun i x hi => hx.row_at hi⟩)
 have hyl := HZ2.out.ylen (Nat.le_refl _)
 have hne : 0 < ys.length := by omega
 obtain ⟨x0, hx0⟩ : ∃ x0, ys[0]? = some x0 := ⟨ys[0], List.getElem?_eq_getElem hne⟩
 obtain ⟨nl, hnl⟩ : ∃ nl, y.tiles.length = nl + 1 := ⟨y.tiles.length - 1, by omega⟩
 have n1 : (y.tiles.length : Int) - 1 = (nl : Int) := by omega
 have n2 : (nl : Int) < (y.tiles.length : Int) := by omega
 have n3 : (0 : Int) ≤ (nl : Int) := by omega
 have n4 : IntKind.i64.wrap ((y.tiles.length : Int) - 1) = (nl : Int) := by rw [IntKind.wrap_i64]; omega
 have n5 : IntKind.i64.wrap (nl : Int) = (nl : Int) := by rw [IntKind.wrap_i64]; omega
 have n6 : (0 : Int) ≤ (y.tiles.length : Int) - 1 := by omega
 have n7 : (y.tiles.length : Int) - 1 < (y.tiles.length : Int) := by omega
 have n8 : ((y.tiles.length : Int) - 1).toNat = nl := by omega
 have n9 : (0 : Int) < (y.tiles.length : Int) := by omega
 have HNL : Hid (nl < y.tiles.length ∧ y.tiles.length ≤ 1000 ∧ y.tiles.length - 1 = nl) := Lib.hid ⟨by omega, by omega, by omega⟩
 obtain ⟨xn, hxn⟩ : ∃ xn, ys[nl]? = some xn := ⟨ys[nl]'(by omega), List.getElem?_eq_getElem (by omega)⟩
 clear hnl
 have HX := Hi (And.intro hx0 hxn)
 clear hx0 hxn
 have HD := Hi (HZ2.out.below (w2 := wz.drew) ((Below.refl _ _).drew))
 have f0 := (HC2.out _ _ HD.out).2.2 _ _ HX.out.1
 have fn := (HC2.out _ _ HD.out).2.2 _ _ HX.out.2
 obtain ⟨c1, c2, _⟩ := HC2.out _ _ HD.out
 have ST := HD.out.stepc HO.out hl0 HLEN.out HX.out.1 si
 have LD := Hi (fun w3 D2 (h3 : RtSt W B a b c L p F M MP Wk w D ws xs rv wv pv gs A y oc y.tiles.length D2 (.slice (some ⟨g, 0, none⟩) y.tiles.length cap) ys w3) => RtSt.leads HO.out h3 HLEN.out HNL.out.2.1 HNL.out.1 HX.out.2 sj si)
 clear hyl hne hl2
 conv => arg 2; whnf
 by_cases hm1 : mv W gs ((tws W y.tiles).getD 0 []) si = (tws W y.tiles).getD 0 []
 case pos =>
  have ST := Lib.hid ST
  have hself := eql_self x0
  have HM1 := Lib.hid hm1
  clear hm1
  refine wp_region_held_drew (S := fun w' => w'.cell? ⟨g, 0, none⟩ = some (.pointer (some ⟨x0, 0, none⟩)) ∧ w'.cell? ⟨w.heap.size, 1, none⟩ = some (.int .i64 (si.val : Int)) ∧ w'.cell? ⟨w.heap.size, 2, none⟩ = some (.int .i64 (sj.val : Int)) ∧ w'.cell? ⟨g, nl, none⟩ = some (.pointer (some ⟨xn, 0, none⟩))) (by kernel_rfl) (⟨f0, c1, c2, fn⟩) (fun hHeld => ?_)
  refine ty 0 hHeld ?_
  try simp only [ly]
  refine ty 1 hHeld ?_
  try simp only [ly]
  refine ty 2 hHeld ?_
  try simp only [ly]
  refine ty 3 hHeld ?_
  try simp only [ly]
  refine ty 4 hHeld ?_
  try simp only [ly]
  refine ty 5 hHeld ?_
  try simp only [ly]
  refine ty 7 hHeld ?_
  try simp only [ly]
  refine ty 8 hHeld ?_
  try simp only [ly]
  refine ty 9 hHeld ?_
  try simp only [ly]
  refine take_step (i := 6) rfl (by kernel_rfl) (fun K' hK => ?_)
  go_simp
  go_at_call 51
  refine ST.out.mono ?_
  rintro e w3 ⟨D2, y2, rfl, h3, _, hy2⟩
  obtain rfl := hy2 HM1.out
  have H3 := Lib.hid h3
  have g0 := (HC2.out _ _ h3).2.2 _ _ HX.out.1
  obtain ⟨g1, g2, _⟩ := HC2.out _ _ h3
  have g3 := (HC2.out _ _ h3).2.2 _ _ HX.out.2
  have LD3 := Hi (LD.out _ _ h3)
  clear h3
  refine hK.out _ _ (⟨g0, g1, g2, g3⟩) (fun hHeld => ?_)
  clear hK K'
  try simp only [ly]
  refine ty 10 hHeld ?_
  try simp only [ly]
  refine ty 11 hHeld ?_
  try simp only [ly]
  refine ty 12 hHeld ?_
  try simp only [ly]
  refine ty 13 hHeld ?_
  try simp only [ly]
  refine ty 14 hHeld ?_
  try simp only [ly]
  refine ty 15 hHeld ?_
  try simp only [ly]
  refine ty 16 hHeld ?_
  try simp only [ly]
  refine ty 17 hHeld ?_
  try simp only [ly]
  refine ty 18 hHeld ?_
  try simp only [ly]
  refine ty 19 hHeld ?_
  try simp only [ly]
  refine ty 20 hHeld ?_
  try simp only [ly]
  refine ty 21 hHeld ?_
  try simp only [ly]
  refine ty 22 hHeld ?_
  try simp only [ly]
  refine take_step (i := 23) rfl (by kernel_rfl) (fun K' hK => ?_)
  go_simp
  go_at_call 52
  refine LD3.out.mono ?_
  rintro e w4 ⟨bb, D4, rfl, hbb, h4⟩
  have H4 := Hi (And.intro hbb h4)
  have e0 := (HC2.out _ _ h4).2.2 _ _ HX.out.1
  obtain ⟨e1, e2, _⟩ := HC2.out _ _ h4
  have e3 := (HC2.out _ _ h4).2.2 _ _ HX.out.2
  clear hbb h4
  refine hK.out _ _ (⟨e0, e1, e2, e3⟩) (fun hHeld => ?_)
  clear hK K'
  try simp only [ly]
  refine ty 24 hHeld ?_
  try simp only [ly]
  refine ty 25 hHeld ?_
  try simp only [ly]
  refine wpAnyH_done (by kernel_rfl) ?_ _
  refine HNEXT.out bb D4 _ _ _ _ _ _ _ _ _ _ _ _ _ _ _ _ _ _ _ _ _ _ _ _ _ _ ?_ H4.out.2
  rw [H4.out.1]
  unfold onceP
  rw [tws_length, HNL.out.2.2]
  exact ⟨fun h => ⟨HM1.out, h⟩, fun h => h.2⟩
 case neg =>
  rw [decide_eq_false hm1] at ST
  have ST := Lib.hid ST
  have HM1 := Lib.hid hm1
  clear hm1 LD
  have f0z : wz.cell? ⟨g, 0, none⟩ = some (.pointer (some ⟨x0, 0, none⟩)) := f0
  have c1z : wz.cell? ⟨w.heap.size, 1, none⟩ = some (.int .i64 (si.val : Int)) := c1
  have c2z : wz.cell? ⟨w.heap.size, 2, none⟩ = some (.int .i64 (sj.val : Int)) := c2
  refine wp_region_held_drew (S := fun w' => w'.cell? ⟨g, 0, none⟩ = some (.pointer (some ⟨x0, 0, none⟩)) ∧ w'.cell? ⟨w.heap.size, 1, none⟩ = some (.int .i64 (si.val : Int)) ∧ w'.cell? ⟨w.heap.size, 2, none⟩ = some (.int .i64 (sj.val : Int))) (by kernel_rfl) (⟨f0, c1, c2⟩) (fun hHeld => ?_)
  refine ty 0 hHeld ?_
  try simp only [ly]
  refine ty 1 hHeld ?_
  try simp only [ly]
  refine ty 2 hHeld ?_
  try simp only [ly]
  refine ty 3 hHeld ?_
  try simp only [ly]
  refine ty 4 hHeld ?_
  try simp only [ly]
  refine ty 5 hHeld ?_
  try simp only [ly]
  refine ty 7 hHeld ?_
  try simp only [ly]
  refine ty 8 hHeld ?_
  try simp only [ly]
  refine ty 9 hHeld ?_
  try simp only [ly]
  refine take_step (i := 6) rfl (by kernel_rfl) (fun K' hK => ?_)
  go_simp
  go_at_call 51
  refine ST.out.mono ?_
  rintro e w3 ⟨D2, y2, rfl, h3, heq, _⟩
  have H3 := Lib.hid h3
  have g0 := (HC2.out _ _ h3).2.2 _ _ HX.out.1
  obtain ⟨g1, g2, _⟩ := HC2.out _ _ h3
  clear h3
  refine hK.out _ _ (⟨g0, g1, g2⟩) (fun hHeld => ?_)
  clear hK K'
  try simp only [ly]
  refine take_step (i := 10) rfl (by kernel_rfl) (fun K' hK => ?_)
  go_simp
  refine hK.out _ _ (⟨g0, g1, g2⟩) (fun hHeld => ?_)
  clear hK K'
  try simp only [ly]
  refine ty 11 hHeld ?_
  try simp only [ly]
  refine tn 12 hHeld ?_
  try simp only [ly]
  refine tn 13 hHeld ?_
  try simp only [ly]
  refine tn 14 hHeld ?_
  try simp only [ly]
  refine tn 15 hHeld ?_
  try simp only [ly]
  refine tn 16 hHeld ?_
  try simp only [ly]
  refine tn 17 hHeld ?_
  try simp only [ly]
  refine tn 18 hHeld ?_
  try simp only [ly]
  refine tn 19 hHeld ?_
  try simp only [ly]
  refine tn 20 hHeld ?_
  try simp only [ly]
  refine tn 21 hHeld ?_
  try simp only [ly]
  refine tn 22 hHeld ?_
  try simp only [ly]
  refine tn 23 hHeld ?_
  try simp only [ly]
  refine ty 24 hHeld ?_
  try simp only [ly]
  refine ty 25 hHeld ?_
  try simp only [ly]
  refine wpAnyH_done (by kernel_rfl) ?_ _
  refine HNEXT.out false D2 _ _ _ _ _ _ _ _ _ _ _ _ _ _ _ _ _ _ _ _ _ _ _ _ _ _ ⟨fun h => (by cases h), fun h => (HM1.out h.1).elim⟩ H3.out
end
end Go.Proofs.Ytkndmibmmoikbaa
namespace Go.Proofs.Ytkndmibmmoikbaa
open Go.RowKit
open Cox (Tl)
noncomputable def right18 : Code := (Try.f23.body.bind (onlyR 18)).getD .skip
section
variable {K : Type} [Cox.OR K] {W : Cox.Tri K}
variable {B : Nat} {a b c : Int} {L p F M MP Wk : Nat} {w : World} {D : Dict} {ws : List (List (Fin 3))} {xs : List Nat} {rv wv pv : Value} {gs : List (EdgeW × List (Fin 3))} {A : List (Fin 3) → Nat} {y : CycD}
theorem right_t18 {Q : Ending → World → Prop} {K0 K2 : Act → World → Prop} (HO : Hid (Ords W a b c)) (hl0 : 0 < y.tiles.length) (hl2 : y.tiles.length ≤ 1000) {pt : Option Addr} {ct : Nat} {oc : Obj} (HOC : Hid (oc = .cells #[.slice pt y.tiles.length ct, .int .i64 y.i, .int .i64 y.j, .int .i64 y.rounds, .bool y.mir] 48 (0, 0)))
 {D' : Dict} {g cap : Nat} {ys : List Nat} {wz : World} (HZ2 : Hid (RtSt W B a b c L p F M MP Wk w D ws xs rv wv pv gs A y oc y.tiles.length D' (.slice (some ⟨g, 0, none⟩) y.tiles.length cap) ys wz)) {m0 : Int} {si sj : Fin 3} (HSI : Hid (y.i = (si.val : Int) ∧ y.j = (sj.val : Int)))
 (HLEN : Hid (∀ i, ((tws W y.tiles).getD i []).length < 90000)) {u1 u2 u4 u6 u7 u8 u9 u12 u13 u14 u15 u16 u17 u18 u19 u20 u21 u22 u23 u24 u25 u26 u27 u28 u29 u30 u31 u32 u33 u34 u35 u36 u37 u38 u39 u40 u41 u42 u43 u44 u45 u46 u47 u48 u49 u50 u51 u52 u53 u54 u55 u56 u57 u58 u59 u60 u61 u62 u63 u64 u65 u66 u67 u68 u69 u70 u71 u72 u73 u74 u75 u76 u77 u78 u79 u80 u81 u82 u83 u84 u85 u86 u87 u88 u89 u90 u91 u92 u93 u94 u95 u96 u97 u98 u99 u100 u101 u102 u103 u104 u105 u106 u107 u108 u109 u110 u111 u112 u113 u114 u115 u116 u117 u118 u119 u120 u121 u122 u123 u124 u125 u126 u127 u128 u129 u130 u131 u132 u133 u134 u135 u136 u137 u138 u139 u140 u141 u142 u143 u144 u145 u146 u147 u148 u149 u150 u151 u152 u153 u154 u155 u156 u157 u158 u159 u160 u161 u162 u163 u164 u165 u166 u167 u168 u169 u170 u171 u172 u173 u174 u175 u176 u177 u178 u179 u180 u181 u182 u183 u184 u185 u186 u187 u188 u189 u190 u191 u192 u193 u194 u195 u196 u197 u198 u199 u200 u201 u202 u203 u204 u205 u206 u207 u208 : Value}
 (HNO : Hid (∀ (D2 : Dict) (wx : World), ¬ (y.tiles.length % 2 = 0 ∧ leadsP W gs (tws W y.tiles) si sj ((tws W y.tiles).getD 0 [])) → RtSt W B a b c L p F M MP Wk w D ws xs rv wv pv gs A y oc y.tiles.length D2 (.slice (some ⟨g, 0, none⟩) y.tiles.length cap) ys wx → Q (.panicked (refusal 20)) wx))
 (HNEXT : Hid (∀ (D2 : Dict) (wx : World) (v172 v173 v174 v175 v176 v177 v178 v179 v180 v181 v182 v183 v184 v185 v186 v187 : Value), (y.tiles.length % 2 = 0 ∧ leadsP W gs (tws W y.tiles) si sj ((tws W y.tiles).getD 0 [])) → RtSt W B a b c L p F M MP Wk w D ws xs rv wv pv gs A y oc y.tiles.length D2 (.slice (some ⟨g, 0, none⟩) y.tiles.length cap) ys wx → K0 ⟨#[.pointer (some ⟨Wk, 0, none⟩), u1, u2, .pointer (some ⟨w.heap.size, 0, none⟩), u4, .slice (some ⟨g, 0, none⟩) y.tiles.length cap, u6, u7, u8, u9, .int .i64 (y.tiles.length : Int), .int .i64 m0, u12, u13, u14, u15, u16, u17, u18, u19, u20, u21, u22, u23, u24, u25, u26, u27, u28, u29, u30, u31, u32, u33, u34, u35, u36, u37, u38, u39, u40, u41, u42, u43, u44, u45, u46, u47, u48, u49, u50, u51, u52, u53, u54, u55, u56, u57, u58, u59, u60, u61, u62, u63, u64, u65, u66, u67, u68, u69, u70, u71, u72, u73, u74, u75, u76, u77, u78, u79, u80, u81, u82, u83, u84, u85, u86, u87, u88, u89, u90, u91, u92, u93, u94, u95, u96, u97, u98, u99, u100, u101, u102, u103, u104, u105, u106, u107, u108, u109, u110, u111, u112, u113, u114, u115, u116, u117, u118, u119, u120, u121, u122, u123, u124, u125, u126, u127, u128, u129, u130, u131, u132, u133, u134, u135, u136, u137, u138, u139, u140, u141, u142, u143, u144, u145, u146, u147, u148, u149, u150, u151, u152, u153, u154, u155, u156, u157, u158, u159, u160, u161, u162, u163, u164, u165, u166, u167, u168, u169, u170, u171, v172, v173, v174, v175, v176, v177, v178, v179, v180, v181, v182, v183, v184, v185, v186, v187, u188, u189, u190, u191, u192, u193, u194, u195, u196, u197, u198, u199, u200, u201, u202, u203, u204, u205, u206, u207, u208], []⟩ wx)) :
 Code.wp Try.prog right18 (Exit.then K0 (Exit.then K2 (bodyPost Try.prog Try.f23 Q))) ⟨#[.pointer (some ⟨Wk, 0, none⟩), u1, u2, .pointer (some ⟨w.heap.size, 0, none⟩), u4, .slice (some ⟨g, 0, none⟩) y.tiles.length cap, u6, u7, u8, u9, .int .i64 (y.tiles.length : Int), .int .i64 m0, u12, u13, u14, u15, u16, u17, u18, u19, u20, u21, u22, u23, u24, u25, u26, u27, u28, u29, u30, u31, u32, u33, u34, u35, u36, u37, u38, u39, u40, u41, u42, u43, u44, u45, u46, u47, u48, u49, u50, u51, u52, u53, u54, u55, u56, u57, u58, u59, u60, u61, u62, u63, u64, u65, u66, u67, u68, u69, u70, u71, u72, u73, u74, u75, u76, u77, u78, u79, u80, u81, u82, u83, u84, u85, u86, u87, u88, u89, u90, u91, u92, u93, u94, u95, u96, u97, u98, u99, u100, u101, u102, u103, u104, u105, u106, u107, u108, u109, u110, u111, u112, u113, u114, u115, u116, u117, u118, u119, u120, u121, u122, u123, u124, u125, u126, u127, u128, u129, u130, u131, u132, u133, u134, u135, u136, u137, u138, u139, u140, u141, u142, u143, u144, u145, u146, u147, u148, u149, u150, u151, u152, u153, u154, u155, u156, u157, u158, u159, u160, u161, u162, u163, u164, u165, u166, u167, u168, u169, u170, u171, u172, u173, u174, u175, u176, u177, u178, u179, u180, u181, u182, u183, u184, u185, u186, u187, u188, u189, u190, u191, u192, u193, u194, u195, u196, u197, u198, u199, u200, u201, u202, u203, u204, u205, u206, u207, u208], []⟩ wz := by
 have HC2 : Hid (∀ (wx : World) (Dx : Dict), RtSt W B a b c L p F M MP Wk w D ws xs rv wv pv gs A y oc y.tiles.length Dx (.slice (some ⟨g, 0, none⟩) y.tiles.length cap) ys wx → wx.cell? ⟨w.heap.size, 1, none⟩ = some (.int .i64 (si.val : Int)) ∧ wx.cell? ⟨w.heap.size, 2, none⟩ = some (.int .i64 (sj.val : Int)) ∧ (∀ i x, ys[i]? = some x → wx.cell? ⟨g, i, none⟩ = some (.pointer (some ⟨x, 0, none⟩)))) := Hi (fun wx Dx hx => by
  have := hx.box
  rw [HOC.out, HSI.out.1, HSI.out.2] at this
  exact ⟨by rw [cell_of this]; rfl, by rw [cell_of this]; rfl, fun i x hi => hx.row_at hi⟩)
 have NN := Hi (fun w => need_no 20 w)
 have NY := Hi (fun w => need_yes 20 w)
 have hyl := HZ2.out.ylen (Nat.le_refl _)
 have hne : 0 < ys.length := by omega
 obtain ⟨x0, hx0⟩ : ∃ x0, ys[0]? = some x0 := ⟨ys[0], List.getElem?_eq_getElem hne⟩
 have n9 : (0 : Int) < (y.tiles.length : Int) := by omega
 have HX := Lib.hid hx0
 have HD := Hi (HZ2.out.below (w2 := wz.drew) ((Below.refl _ _).drew))
 have f0 := (HC2.out _ _ HD.out).2.2 _ _ HX.out
 obtain ⟨c1, c2, _⟩ := HC2.out _ _ HD.out
 have LD := Hi (RtSt.leads HO.out HD.out HLEN.out hl2 hl0 hx0 si sj)
 clear hyl hne hl2 hx0
 conv => arg 2; whnf
 by_cases hm1 : y.tiles.length % 2 = 0
 case neg =>
  have b0 : ¬ (Int.tmod (y.tiles.length : Int) 2 = 0) := by rw [Int.tmod_eq_emod_of_nonneg (by omega)]; omega
  have b1 : (Int.tmod (y.tiles.length : Int) 2 == 0) = false := by simpa using b0
  clear b0
  have HM1 := Lib.hid hm1
  clear hm1 LD
  refine wp_region_held_drew (S := fun w' => w'.cell? ⟨g, 0, none⟩ = some (.pointer (some ⟨x0, 0, none⟩)) ∧ w'.cell? ⟨w.heap.size, 1, none⟩ = some (.int .i64 (si.val : Int)) ∧ w'.cell? ⟨w.heap.size, 2, none⟩ = some (.int .i64 (sj.val : Int))) (by kernel_rfl) (⟨f0, c1, c2⟩) (fun hHeld => ?_)
  refine ty 0 hHeld ?_
  try simp only [ly]
  refine ty 1 hHeld ?_
  try simp only [ly]
  refine ty 2 hHeld ?_
  try simp only [ly]
  refine ty 3 hHeld ?_
  try simp only [ly]
  refine tn 4 hHeld ?_
  try simp only [ly]
  refine tn 5 hHeld ?_
  try simp only [ly]
  refine tn 6 hHeld ?_
  try simp only [ly]
  refine tn 7 hHeld ?_
  try simp only [ly]
  refine tn 8 hHeld ?_
  try simp only [ly]
  refine tn 9 hHeld ?_
  try simp only [ly]
  refine tn 10 hHeld ?_
  try simp only [ly]
  refine tn 11 hHeld ?_
  try simp only [ly]
  refine tn 12 hHeld ?_
  try simp only [ly]
  refine tn 13 hHeld ?_
  try simp only [ly]
  refine ty 14 hHeld ?_
  try simp only [ly]
  refine take_step (i := 15) rfl (by kernel_rfl) (fun K' hK => ?_)
  go_simp
  go_at_call 24
  refine (NN.out _).mono ?_
  rintro e w5 ⟨rfl, rfl⟩
  exact And.intro rfl (HNO.out _ _ (fun h => HM1.out h.1) HD.out)
 case pos =>
  have b0 : Int.tmod (y.tiles.length : Int) 2 = 0 := by rw [Int.tmod_eq_emod_of_nonneg (by omega)]; omega
  have b1 : (Int.tmod (y.tiles.length : Int) 2 == 0) = true := by rw [b0]; rfl
  clear b0
  have HM1 := Lib.hid hm1
  clear hm1
  refine wp_region_held_drew (S := fun w' => w'.cell? ⟨g, 0, none⟩ = some (.pointer (some ⟨x0, 0, none⟩)) ∧ w'.cell? ⟨w.heap.size, 1, none⟩ = some (.int .i64 (si.val : Int)) ∧ w'.cell? ⟨w.heap.size, 2, none⟩ = some (.int .i64 (sj.val : Int))) (by kernel_rfl) (⟨f0, c1, c2⟩) (fun hHeld => ?_)
  refine ty 0 hHeld ?_
  try simp only [ly]
  refine ty 1 hHeld ?_
  try simp only [ly]
  refine ty 2 hHeld ?_
  try simp only [ly]
  refine ty 3 hHeld ?_
  try simp only [ly]
  refine ty 4 hHeld ?_
  try simp only [ly]
  refine ty 5 hHeld ?_
  try simp only [ly]
  refine ty 6 hHeld ?_
  try simp only [ly]
  refine ty 7 hHeld ?_
  try simp only [ly]
  refine ty 8 hHeld ?_
  try simp only [ly]
  refine ty 9 hHeld ?_
  try simp only [ly]
  refine ty 10 hHeld ?_
  try simp only [ly]
  refine ty 11 hHeld ?_
  try simp only [ly]
  refine ty 12 hHeld ?_
  try simp only [ly]
  refine take_step (i := 13) rfl (by kernel_rfl) (fun K' hK => ?_)
  go_simp
  go_at_call 52
  refine LD.out.mono ?_
  rintro e w4 ⟨bb, D4, rfl, hbb, h4⟩
  have H4 := Hi (And.intro hbb h4)
  have e0 := (HC2.out _ _ h4).2.2 _ _ HX.out
  obtain ⟨e1, e2, _⟩ := HC2.out _ _ h4
  clear hbb h4
  refine hK.out _ _ (⟨e0, e1, e2⟩) (fun hHeld => ?_)
  clear hK K'
  try simp only [ly]
  refine ty 14 hHeld ?_
  try simp only [ly]
  cases bb with
  | false =>
   refine take_step (i := 15) rfl (by kernel_rfl) (fun K' hK => ?_)
   go_simp
   go_at_call 24
   refine (NN.out _).mono ?_
   rintro e w5 ⟨rfl, rfl⟩
   exact And.intro rfl (HNO.out _ _ (fun h => by have := H4.out.1.2 h.2; cases this) H4.out.2)
  | true =>
   refine take_step (i := 15) rfl (by kernel_rfl) (fun K' hK => ?_)
   go_simp
   go_at_call 24
   refine (NY.out _).mono ?_
   rintro e w5 ⟨rfl, rfl⟩
   refine hK.out _ _ (hHeld) (fun hHeld => ?_)
   clear hK K'
   try simp only [ly]
   refine wpAnyH_done (by kernel_rfl) ?_ _
   exact HNEXT.out D4 _ _ _ _ _ _ _ _ _ _ _ _ _ _ _ _ _ ⟨HM1.out, H4.out.1.1 (by first | rfl | trivial)⟩ H4.out.2
end
end Go.Proofs.Ytkndmibmmoikbaa
namespace Go.Proofs.Ytkndmibmmoikbaa
open Go.RowKit
open Cox (Tl)
noncomputable def right14 : Code := (Try.f23.body.bind (fromR 14)).getD .skip
section
variable {K : Type} [Cox.OR K] {W : Cox.Tri K}
variable {B : Nat} {a b c : Int} {L p F M MP Wk : Nat} {w : World} {D : Dict} {ws : List (List (Fin 3))} {xs : List Nat} {rv wv pv : Value} {gs : List (EdgeW × List (Fin 3))} {A : List (Fin 3) → Nat} {y : CycD}
theorem right_t14 {Q : Ending → World → Prop} (HE : Hid (RtEnd W B a b c L p F M MP Wk w D ws xs rv wv pv gs A y Q)) (HO : Hid (Ords W a b c)) (hB : B ≤ w.heap.size) (hn : y.head ws.length) (hl2 : ws.length ≤ 200) {pt : Option Addr} {ct : Nat} {oc : Obj} (HOC : Hid (oc = .cells #[.slice pt y.tiles.length ct, .int .i64 y.i, .int .i64 y.j, .int .i64 y.rounds, .bool y.mir] 48 (0, 0)))
 {D' : Dict} {g cap : Nat} {ys : List Nat} {wz : World} (HZ2 : Hid (RtSt W B a b c L p F M MP Wk w D ws xs rv wv pv gs A y oc y.tiles.length D' (.slice (some ⟨g, 0, none⟩) y.tiles.length cap) ys wz)) {m0 : Int} (hm0 : 0 ≤ m0 ∧ m0 ≤ 100) (hmo : m0 = ordz a b c y.i y.j) {si sj : Fin 3} (HSI : Hid (y.i = (si.val : Int) ∧ y.j = (sj.val : Int)))
 (HLEN : Hid (∀ i, ((tws W y.tiles).getD i []).length < 90000)) {u1 u2 u4 u6 u7 u8 u9 u12 u13 u14 u15 u16 u17 u18 u19 u20 u21 u22 u23 u24 u25 u26 u27 u28 u29 u30 u31 u32 u33 u34 u35 u36 u37 u38 u39 u40 u41 u42 u43 u44 u45 u46 u47 u48 u49 u50 u51 u52 u53 u54 u55 u56 u57 u58 u59 u60 u61 u62 u63 u64 u65 u66 u67 u68 u69 u70 u71 u72 u73 u74 u75 u76 u77 u78 u79 u80 u81 u82 u83 u84 u85 u86 u87 u88 u89 u90 u91 u92 u93 u94 u95 u96 u97 u98 u99 u100 u101 u102 u103 u104 u105 u106 u107 u108 u109 u110 u111 u112 u113 u114 u115 u116 u117 u118 u119 u120 u121 u122 u123 u124 u125 u126 u127 u128 u129 u130 u131 u132 u133 u134 u135 u136 u137 u138 u139 u140 u141 u142 u143 u144 u145 u146 u147 u148 u149 u150 u151 u152 u153 u154 u155 u156 u157 u158 u159 u160 u161 u162 u163 u164 u165 u166 u167 u168 u169 u170 u171 u172 u173 u174 u175 u176 u177 u178 u179 u180 u181 u182 u183 u184 u185 u186 u187 u188 u189 u190 u191 u192 u193 u194 u195 u196 u197 u198 u199 u200 u201 u202 u203 u204 u205 u206 u207 u208 : Value} :
 Code.wp Try.prog right14 (bodyPost Try.prog Try.f23 Q) ⟨#[.pointer (some ⟨Wk, 0, none⟩), u1, u2, .pointer (some ⟨w.heap.size, 0, none⟩), u4, .slice (some ⟨g, 0, none⟩) y.tiles.length cap, u6, u7, u8, u9, .int .i64 (y.tiles.length : Int), .int .i64 m0, u12, u13, u14, u15, u16, u17, u18, u19, u20, u21, u22, u23, u24, u25, u26, u27, u28, u29, u30, u31, u32, u33, u34, u35, u36, u37, u38, u39, u40, u41, u42, u43, u44, u45, u46, u47, u48, u49, u50, u51, u52, u53, u54, u55, u56, u57, u58, u59, u60, u61, u62, u63, u64, u65, u66, u67, u68, u69, u70, u71, u72, u73, u74, u75, u76, u77, u78, u79, u80, u81, u82, u83, u84, u85, u86, u87, u88, u89, u90, u91, u92, u93, u94, u95, u96, u97, u98, u99, u100, u101, u102, u103, u104, u105, u106, u107, u108, u109, u110, u111, u112, u113, u114, u115, u116, u117, u118, u119, u120, u121, u122, u123, u124, u125, u126, u127, u128, u129, u130, u131, u132, u133, u134, u135, u136, u137, u138, u139, u140, u141, u142, u143, u144, u145, u146, u147, u148, u149, u150, u151, u152, u153, u154, u155, u156, u157, u158, u159, u160, u161, u162, u163, u164, u165, u166, u167, u168, u169, u170, u171, u172, u173, u174, u175, u176, u177, u178, u179, u180, u181, u182, u183, u184, u185, u186, u187, u188, u189, u190, u191, u192, u193, u194, u195, u196, u197, u198, u199, u200, u201, u202, u203, u204, u205, u206, u207, u208], []⟩ wz := by
 conv => arg 2; whnf
 refine wp_seq_k (fun K hK => ?_)
 have HR : Hid (ringP W gs (tws W y.tiles) (mf y.i) (mf y.j) y.mir = if y.mir = true then onceP W gs (tws W y.tiles) si sj ∨ onceP W gs (tws W y.tiles) sj si else y.tiles.length % 2 = 0 ∧ leadsP W gs (tws W y.tiles) si sj ((tws W y.tiles).getD 0 [])) := Hi (by
  rw [HSI.out.1, HSI.out.2, mf_val, mf_val]
  unfold ringP
  rw [tws_length])
 have HK : Hid (∀ (mm : Int) (D2 : Dict) (wx : World) (u1 u2 u4 u6 u7 u8 u9 u12 u13 u14 u15 u16 u17 u18 u19 u20 u21 u22 u23 u24 u25 u26 u27 u28 u29 u30 u31 u32 u33 u34 u35 u36 u37 u38 u39 u40 u41 u42 u43 u44 u45 u46 u47 u48 u49 u50 u51 u52 u53 u54 u55 u56 u57 u58 u59 u60 u61 u62 u63 u64 u65 u66 u67 u68 u69 u70 u71 u72 u73 u74 u75 u76 u77 u78 u79 u80 u81 u82 u83 u84 u85 u86 u87 u88 u89 u90 u91 u92 u93 u94 u95 u96 u97 u98 u99 u100 u101 u102 u103 u104 u105 u106 u107 u108 u109 u110 u111 u112 u113 u114 u115 u116 u117 u118 u119 u120 u121 u122 u123 u124 u125 u126 u127 u128 u129 u130 u131 u132 u133 u134 u135 u136 u137 u138 u139 u140 u141 u142 u143 u144 u145 u146 u147 u148 u149 u150 u151 u152 u153 u154 u155 u156 u157 u158 u159 u160 u161 u162 u163 u164 u165 u166 u167 u168 u169 u170 u171 u172 u173 u174 u175 u176 u177 u178 u179 u180 u181 u182 u183 u184 u185 u186 u187 u188 u189 u190 u191 u192 u193 u194 u195 u196 u197 u198 u199 u200 u201 u202 u203 u204 u205 u206 u207 u208 : Value), mm = m0 * (if y.mir = true then 1 else 2) → ringP W gs (tws W y.tiles) (mf y.i) (mf y.j) y.mir → RtSt W B a b c L p F M MP Wk w D ws xs rv wv pv gs A y oc y.tiles.length D2 (.slice (some ⟨g, 0, none⟩) y.tiles.length cap) ys wx → K ⟨#[.pointer (some ⟨Wk, 0, none⟩), u1, u2, .pointer (some ⟨w.heap.size, 0, none⟩), u4, .slice (some ⟨g, 0, none⟩) y.tiles.length cap, u6, u7, u8, u9, .int .i64 (y.tiles.length : Int), .int .i64 mm, u12, u13, u14, u15, u16, u17, u18, u19, u20, u21, u22, u23, u24, u25, u26, u27, u28, u29, u30, u31, u32, u33, u34, u35, u36, u37, u38, u39, u40, u41, u42, u43, u44, u45, u46, u47, u48, u49, u50, u51, u52, u53, u54, u55, u56, u57, u58, u59, u60, u61, u62, u63, u64, u65, u66, u67, u68, u69, u70, u71, u72, u73, u74, u75, u76, u77, u78, u79, u80, u81, u82, u83, u84, u85, u86, u87, u88, u89, u90, u91, u92, u93, u94, u95, u96, u97, u98, u99, u100, u101, u102, u103, u104, u105, u106, u107, u108, u109, u110, u111, u112, u113, u114, u115, u116, u117, u118, u119, u120, u121, u122, u123, u124, u125, u126, u127, u128, u129, u130, u131, u132, u133, u134, u135, u136, u137, u138, u139, u140, u141, u142, u143, u144, u145, u146, u147, u148, u149, u150, u151, u152, u153, u154, u155, u156, u157, u158, u159, u160, u161, u162, u163, u164, u165, u166, u167, u168, u169, u170, u171, u172, u173, u174, u175, u176, u177, u178, u179, u180, u181, u182, u183, u184, u185, u186, u187, u188, u189, u190, u191, u192, u193, u194, u195, u196, u197, u198, u199, u200, u201, u202, u203, u204, u205, u206, u207, u208], []⟩ wx) := Hi (by
  intro mm D2 wx u1 u2 u4 u6 u7 u8 u9 u12 u13 u14 u15 u16 u17 u18 u19 u20 u21 u22 u23 u24 u25 u26 u27 u28 u29 u30 u31 u32 u33 u34 u35 u36 u37 u38 u39 u40 u41 u42 u43 u44 u45 u46 u47 u48 u49 u50 u51 u52 u53 u54 u55 u56 u57 u58 u59 u60 u61 u62 u63 u64 u65 u66 u67 u68 u69 u70 u71 u72 u73 u74 u75 u76 u77 u78 u79 u80 u81 u82 u83 u84 u85 u86 u87 u88 u89 u90 u91 u92 u93 u94 u95 u96 u97 u98 u99 u100 u101 u102 u103 u104 u105 u106 u107 u108 u109 u110 u111 u112 u113 u114 u115 u116 u117 u118 u119 u120 u121 u122 u123 u124 u125 u126 u127 u128 u129 u130 u131 u132 u133 u134 u135 u136 u137 u138 u139 u140 u141 u142 u143 u144 u145 u146 u147 u148 u149 u150 u151 u152 u153 u154 u155 u156 u157 u158 u159 u160 u161 u162 u163 u164 u165 u166 u167 u168 u169 u170 u171 u172 u173 u174 u175 u176 u177 u178 u179 u180 u181 u182 u183 u184 u185 u186 u187 u188 u189 u190 u191 u192 u193 u194 u195 u196 u197 u198 u199 u200 u201 u202 u203 u204 u205 u206 u207 u208 hmm hr hx
  refine hK _ _ (right_t20 HE hB hn hl2 HOC.out hx (mm := mm) (by rw [hmm, hmo]) ?_ hr)
  rw [hmm]; split <;> omega)
 have HNO : Hid (∀ (D2 : Dict) (wx : World), ¬ ringP W gs (tws W y.tiles) (mf y.i) (mf y.j) y.mir → RtSt W B a b c L p F M MP Wk w D ws xs rv wv pv gs A y oc y.tiles.length D2 (.slice (some ⟨g, 0, none⟩) y.tiles.length cap) ys wx → Q (.panicked (refusal 20)) wx) := Hi (fun D2 wx hr hx => HE.out.no _ (fun hc => hr hc.2.2.1) (hx.all hB))
 have NN := Hi (fun w => need_no 20 w)
 have NY := Hi (fun w => need_yes 20 w)
 have hbox := HZ2.out.box
 rw [HOC.out] at hbox
 have c4 : wz.cell? ⟨w.heap.size, 4, none⟩ = some (.bool y.mir) := by rw [cell_of hbox]; rfl
 have hl0 : 0 < y.tiles.length := hn.2.2.2.1
 have hln : y.tiles.length ≤ 1000 := by have := hn.2.2.2.2; omega
 clear hK hbox HE hn hmo
 obtain ⟨mb, hmir⟩ : ∃ mb, y.mir = mb := ⟨_, rfl⟩
 rw [hmir] at c4 HR HK HNO
 have HMB := Lib.hid hmir
 clear hmir
 cases mb with
 | true =>
  simp only [if_true] at HR HK
  go_upto_region 15 with fail
  clear c4
  refine right_t15 HO hl0 hln HOC HZ2 HSI HLEN (Hi (fun b1 D2 wx x0 x1 x2 x3 x4 x5 x6 x7 x8 x9 x10 x11 x12 x13 x14 x15 x16 x17 x18 x19 x20 x21 x22 x23 x24 hb1 hx1 => ?_))
  have HX1 := Lib.hid hx1
  have HB1 := Lib.hid hb1
  clear hx1 hb1
  go_upto_region 16 with fail
  refine right_t16 HO hl0 hln HOC HX1 HSI HLEN b1 (Hi (fun b2 D3 wy y0 y1 y2 y3 y4 y5 y6 y7 y8 y9 y10 y11 y12 y13 y14 y15 y16 y17 y18 y19 y20 y21 y22 y23 y24 hb2 hx2 => ?_))
  have HX2 := Lib.hid hx2
  have HB2 := Lib.hid hb2
  clear hx2 hb2 HX1 HZ2 hm0 hl0 hln hl2 hB
  cases b1 with
  | true =>
   have HRR := Hi (HR.out.symm ▸ Or.inl (HB1.out.1 rfl))
   go_wp2_with (go_at_call 24; refine (NY.out _).mono ?_; rintro e w5 ⟨rfl, rfl⟩)
   exact HK.out m0 D3 wy _ _ _ _ _ _ _ _ _ _ _ _ _ _ _ _ _ _ _ _ _ _ _ _ _ _ _ _ _ _ _ _ _ _ _ _ _ _ _ _ _ _ _ _ _ _ _ _ _ _ _ _ _ _ _ _ _ _ _ _ _ _ _ _ _ _ _ _ _ _ _ _ _ _ _ _ _ _ _ _ _ _ _ _ _ _ _ _ _ _ _ _ _ _ _ _ _ _ _ _ _ _ _ _ _ _ _ _ _ _ _ _ _ _ _ _ _ _ _ _ _ _ _ _ _ _ _ _ _ _ _ _ _ _ _ _ _ _ _ _ _ _ _ _ _ _ _ _ _ _ _ _ _ _ _ _ _ _ _ _ _ _ _ _ _ _ _ _ _ _ _ _ _ _ _ _ _ _ _ _ _ _ _ _ _ _ _ _ _ _ _ _ _ _ _ _ _ _ _ _ _ _ _ _ (by omega) HRR.out HX2.out
  | false =>
   cases b2 with
   | true =>
    have HRR := Hi (HR.out.symm ▸ Or.inr (HB2.out.1 rfl))
    go_wp2_with (go_at_call 24; refine (NY.out _).mono ?_; rintro e w5 ⟨rfl, rfl⟩)
    exact HK.out m0 D3 wy _ _ _ _ _ _ _ _ _ _ _ _ _ _ _ _ _ _ _ _ _ _ _ _ _ _ _ _ _ _ _ _ _ _ _ _ _ _ _ _ _ _ _ _ _ _ _ _ _ _ _ _ _ _ _ _ _ _ _ _ _ _ _ _ _ _ _ _ _ _ _ _ _ _ _ _ _ _ _ _ _ _ _ _ _ _ _ _ _ _ _ _ _ _ _ _ _ _ _ _ _ _ _ _ _ _ _ _ _ _ _ _ _ _ _ _ _ _ _ _ _ _ _ _ _ _ _ _ _ _ _ _ _ _ _ _ _ _ _ _ _ _ _ _ _ _ _ _ _ _ _ _ _ _ _ _ _ _ _ _ _ _ _ _ _ _ _ _ _ _ _ _ _ _ _ _ _ _ _ _ _ _ _ _ _ _ _ _ _ _ _ _ _ _ _ _ _ _ _ _ _ _ _ _ (by omega) HRR.out HX2.out
   | false =>
    go_wp2_with (go_at_call 24; refine (NN.out _).mono ?_; rintro e w5 ⟨rfl, rfl⟩)
    refine And.intro rfl (HNO.out D3 wy ?_ HX2.out)
    rw [HR.out]
    rintro (h | h)
    · have := HB1.out.2 h; cases this
    · have := HB2.out.2 h; cases this
 | false =>
  simp only [Bool.false_eq_true, if_false] at HR HK
  go_upto_region 18 with fail
  clear c4
  have hw2 : IntKind.i64.wrap (m0 * 2) = m0 * 2 := by rw [IntKind.wrap_i64]; omega
  refine right_t18 HO hl0 hln HOC HZ2 HSI HLEN (Hi (fun D2 wx h1 h2 => HNO.out D2 wx (HR.out ▸ h1) h2)) (Hi (fun D2 wx x0 x1 x2 x3 x4 x5 x6 x7 x8 x9 x10 x11 x12 x13 x14 x15 hb1 hx1 => ?_))
  have HRR := Hi (HR.out.symm ▸ hb1)
  have HX1 := Lib.hid hx1
  clear hx1 hb1
  go_wp2_with fail
  exact HK.out (m0 * 2) D2 wx _ _ _ _ _ _ _ _ _ _ _ _ _ _ _ _ _ _ _ _ _ _ _ _ _ _ _ _ _ _ _ _ _ _ _ _ _ _ _ _ _ _ _ _ _ _ _ _ _ _ _ _ _ _ _ _ _ _ _ _ _ _ _ _ _ _ _ _ _ _ _ _ _ _ _ _ _ _ _ _ _ _ _ _ _ _ _ _ _ _ _ _ _ _ _ _ _ _ _ _ _ _ _ _ _ _ _ _ _ _ _ _ _ _ _ _ _ _ _ _ _ _ _ _ _ _ _ _ _ _ _ _ _ _ _ _ _ _ _ _ _ _ _ _ _ _ _ _ _ _ _ _ _ _ _ _ _ _ _ _ _ _ _ _ _ _ _ _ _ _ _ _ _ _ _ _ _ _ _ _ _ _ _ _ _ _ _ _ _ _ _ _ _ _ _ _ _ _ _ _ _ _ _ _ rfl HRR.out HX1.out
end
end Go.Proofs.Ytkndmibmmoikbaa
