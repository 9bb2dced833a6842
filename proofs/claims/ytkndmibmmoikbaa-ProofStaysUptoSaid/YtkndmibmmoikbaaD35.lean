/- Chapter 10: La2. -/
import Derived.Test.YtkndmibmmoikbaaD34
import Derived.Test.YtkndmibmmoikbaaD28
set_option linter.all false
set_option maxRecDepth 100000
set_option maxHeartbeats 16000000
namespace Go.Proofs.Ytkndmibmmoikbaa
open Go.RowKit
open Cox (Tl)
noncomputable def saneR6 : Code := (Try.f7.body.bind (onlyR 6)).getD .skip
noncomputable def saneR8 : Code := (Try.f7.body.bind (onlyR 8)).getD .skip
theorem sane_r6 {Q : Exit → Act → World → Prop} {bo g0 pc cp : Nat} {ds : List Deferred} {wz : World} (hbo : wz.heap[bo]? = some (.cells #[.int .i64 3, .int .i64 7, .int .i64 2] 23 (0, 0)))
 (fc : ∀ wx, Below wz.heap.size wz wx → Calls Try.prog 9 #[.agg #[.int .i64 3, .int .i64 7, .int .i64 2], .slice (some ⟨wx.heap.size, 0, none⟩) 1 1, .slice (some ⟨g0, 0, none⟩) 3 cp, .slice (some ⟨pc, 0, none⟩) 2 3] (wx.alloc (.cells #[.string ⟨#[]⟩] 9)) fun e w' => e = .returned (.int .i64 20) ∧ Below (wx.alloc (.cells #[.string ⟨#[]⟩] 9)).heap.size (wx.alloc (.cells #[.string ⟨#[]⟩] 9)) w')
 {u0 u4 u5 u6 u7 u8 u9 u10 u11 u12 u13 u14 u15 u16 u17 u18 u19 u20 u21 u22 u23 u24 u25 u26 u27 u28 u29 u30 u31 u32 u33 u34 u35 u36 u37 u38 u39 u40 u41 u42 u43 u44 u45 u46 u47 u48 u49 u50 u51 u52 u53 u54 u55 u56 u57 u58 u59 u60 u61 u62 u63 u64 u65 u66 u67 u68 u69 u70 u71 u72 u73 u74 u75 u76 u77 u78 u79 u80 u81 u82 u83 : Value}
 (hN : ∀ w6 (n29 n30 n31 n32 n33 n34 : Value), Below wz.heap.size wz w6 → Q .normal ⟨#[u0, .pointer (some ⟨bo, 0, none⟩), .slice (some ⟨g0, 0, none⟩) 3 cp, .slice (some ⟨pc, 0, none⟩) 3 3, u4, u5, u6, .int .i64 20, u8, u9, u10, u11, u12, u13, u14, u15, u16, u17, u18, u19, u20, u21, u22, u23, u24, u25, u26, u27, u28, n29, n30, n31, n32, n33, n34, u35, u36, u37, u38, u39, u40, u41, u42, u43, u44, u45, u46, u47, u48, u49, u50, u51, u52, u53, u54, u55, u56, u57, u58, u59, u60, u61, u62, u63, u64, u65, u66, u67, u68, u69, u70, u71, u72, u73, u74, u75, u76, u77, u78, u79, u80, u81, u82, u83], ds⟩ w6) :
 Code.wp Try.prog saneR6 Q ⟨#[u0, .pointer (some ⟨bo, 0, none⟩), .slice (some ⟨g0, 0, none⟩) 3 cp, .slice (some ⟨pc, 0, none⟩) 3 3, u4, u5, u6, u7, u8, u9, u10, u11, u12, u13, u14, u15, u16, u17, u18, u19, u20, u21, u22, u23, u24, u25, u26, u27, u28, u29, u30, u31, u32, u33, u34, u35, u36, u37, u38, u39, u40, u41, u42, u43, u44, u45, u46, u47, u48, u49, u50, u51, u52, u53, u54, u55, u56, u57, u58, u59, u60, u61, u62, u63, u64, u65, u66, u67, u68, u69, u70, u71, u72, u73, u74, u75, u76, u77, u78, u79, u80, u81, u82, u83], ds⟩ wz := by
 have HN := Lib.hid hN
 have FC := Lib.hid fc
 clear hN fc
 conv => arg 2; whnf
 have d0 : wz.drew.cell? ⟨bo, 0, none⟩ = some (.int .i64 3) := by rw [cell_drew_own, cell_of hbo]; rfl
 have d1 : wz.drew.cell? ⟨bo, 1, none⟩ = some (.int .i64 7) := by rw [cell_drew_own, cell_of hbo]; rfl
 have d2 : wz.drew.cell? ⟨bo, 2, none⟩ = some (.int .i64 2) := by rw [cell_drew_own, cell_of hbo]; rfl
 clear hbo
 refine region_calm ?_
 refine wp_region_held_drew (S := fun w' => Below wz.drew.heap.size wz.drew w') (by kernel_rfl) (Below.refl _ _) (fun hHeld => ?_)
 refine ty0 0 ?vz1 ?hz1 hHeld ?rz1
 case hz1 => (intro w' hb; have e0 := cell_stays hb d0; have e1 := cell_stays hb d1; have e2 := cell_stays hb d2; go_simp <;> with_reducible rfl)
 try simp only [ly]
 refine ty0 2 ?vz2 ?hz2 hHeld ?rz2
 case hz2 => (intro w' hb; go_simp <;> with_reducible rfl)
 try simp only [ly]
 refine ty0 3 ?vz3 ?hz3 hHeld ?rz3
 case hz3 => (intro w' hb; go_simp <;> with_reducible rfl)
 try simp only [ly]
 refine ty0 4 ?vz4 ?hz4 hHeld ?rz4
 case hz4 => (intro w' hb; go_simp <;> with_reducible rfl)
 try simp only [ly]
 refine take_step (i := 1) rfl (by kernel_rfl) (fun K' hK => ?_)
 go_simp
 have hb1 := (Below.refl wz.drew.heap.size wz.drew).alloc (Nat.le_refl _) (.cells #[.string ⟨#[]⟩] 9)
 refine hK.out _ _ hb1 (fun hHeld => ?_)
 clear hK K'
 try simp only [ly]
 refine take_step (i := 5) rfl (by kernel_rfl) (fun K' hK => ?_)
 go_simp
 go_at_call 9
 refine (FC.out wz.drew ((Below.refl _ wz).drew)).mono ?_
 rintro r w6 ⟨rfl, hb6⟩
 have HB6 := Hi (hb1.trans (hb6.mono hb1.size))
 refine hK.out _ _ HB6.out (fun hHeld => ?_)
 clear hK K'
 try simp only [ly]
 refine ty0 6 ?vz5 ?hz5 hHeld ?rz5
 case hz5 => (intro w' hb; go_simp <;> with_reducible rfl)
 try simp only [ly]
 refine wpAnyH_done (by kernel_rfl) ?_ _
 refine ⟨rfl, ?_⟩
 exact HN.out _ _ _ _ _ _ _ (((Below.refl _ wz).drew).trans HB6.out)
theorem sane_r8 {Q : Exit → Act → World → Prop} {bo g0 pc cp b8 b9 : Nat} {ds : List Deferred} {wz : World} (hbo : wz.heap[bo]? = some (.cells #[.int .i64 3, .int .i64 7, .int .i64 2] 23 (0, 0)))
 (hp : PairsAt wz (some ⟨g0, 0, none⟩) aPairs) (h8 : wz.heap[b8]? = some (.cells #[.string ⟨#[0]⟩, .int .i64 1] 40 (0, 0))) (h9 : wz.heap[b9]? = some (.cells #[.string ⟨#[0]⟩, .int .i64 2] 40 (0, 0)))
 (oc : ∀ wx x1 x2 x3, Below wz.heap.size wz wx → wx.heap[x1]? = some (.cells #[.string ⟨#[]⟩, .string ⟨#[0]⟩] 9 (0, 0)) → wx.heap[x2]? = some (.cells #[.string ⟨#[]⟩, .int .i64 1, .string ⟨#[]⟩, .int .i64 1, .string ⟨#[]⟩, .int .i64 2, .string ⟨#[]⟩, .int .i64 2, .string ⟨#[0]⟩, .int .i64 1, .string ⟨#[0]⟩, .int .i64 1, .string ⟨#[0]⟩, .int .i64 2, .string ⟨#[0]⟩, .int .i64 2] 41 (0, 0)) → wx.heap[x3]? = some (.cells #[.int .i64 1, .int .i64 3, .int .i64 1] 3 (0, 0)) → Calls Try.prog 12 #[.agg #[.int .i64 3, .int .i64 7, .int .i64 2], .slice (some ⟨x1, 0, none⟩) 2 2, .slice (some ⟨x2, 0, none⟩) 4 4, .slice (some ⟨x3, 0, none⟩) 3 3] wx fun e w' => e = .returned (.tuple #[.string ⟨#[]⟩, .string ⟨#[0]⟩, .int .i64 0]) ∧ Below wx.heap.size wx w')
 {u0 u4 u5 u6 u7 u10 u11 u12 u13 u14 u15 u16 u17 u18 u19 u20 u21 u22 u23 u24 u25 u26 u27 u28 u29 u30 u31 u32 u33 u34 u35 u36 u37 u38 u39 u40 u41 u42 u43 u44 u45 u46 u47 u48 u49 u50 u51 u52 u53 u54 u55 u56 u57 u58 u59 u60 u61 u62 u63 u64 u65 u66 u67 u68 u69 u70 u71 u72 u73 u74 u75 u76 u77 u78 u79 u80 u81 u82 u83 : Value}
 (hN : ∀ w6 (n37 n38 n39 n40 n41 n42 n43 n44 n45 n46 n47 n48 n49 n50 n51 n52 n53 n54 n55 n56 n57 : Value), Below wz.heap.size wz w6 → Q .normal ⟨#[u0, .pointer (some ⟨bo, 0, none⟩), .slice (some ⟨g0, 0, none⟩) 3 cp, .slice (some ⟨pc, 0, none⟩) 3 3, u4, u5, u6, u7, .pointer (some ⟨b8, 0, none⟩), .pointer (some ⟨b9, 0, none⟩), .string ⟨#[]⟩, .string ⟨#[0]⟩, .int .i64 0, u13, u14, u15, u16, u17, u18, u19, u20, u21, u22, u23, u24, u25, u26, u27, u28, u29, u30, u31, u32, u33, u34, u35, u36, n37, n38, n39, n40, n41, n42, n43, n44, n45, n46, n47, n48, n49, n50, n51, n52, n53, n54, n55, n56, n57, u58, u59, u60, u61, u62, u63, u64, u65, u66, u67, u68, u69, u70, u71, u72, u73, u74, u75, u76, u77, u78, u79, u80, u81, u82, u83], ds⟩ w6) :
 Code.wp Try.prog saneR8 Q ⟨#[u0, .pointer (some ⟨bo, 0, none⟩), .slice (some ⟨g0, 0, none⟩) 3 cp, .slice (some ⟨pc, 0, none⟩) 3 3, u4, u5, u6, u7, .pointer (some ⟨b8, 0, none⟩), .pointer (some ⟨b9, 0, none⟩), u10, u11, u12, u13, u14, u15, u16, u17, u18, u19, u20, u21, u22, u23, u24, u25, u26, u27, u28, u29, u30, u31, u32, u33, u34, u35, u36, u37, u38, u39, u40, u41, u42, u43, u44, u45, u46, u47, u48, u49, u50, u51, u52, u53, u54, u55, u56, u57, u58, u59, u60, u61, u62, u63, u64, u65, u66, u67, u68, u69, u70, u71, u72, u73, u74, u75, u76, u77, u78, u79, u80, u81, u82, u83], ds⟩ wz := by
 have HN := Lib.hid hN
 have OC := Lib.hid oc
 clear hN oc
 obtain ⟨b, o, hbo2, hr⟩ := hp (by simp [aPairs])
 have hbo3 : g0 = b ∧ 0 = o := by simpa using hbo2
 obtain ⟨rfl, rfl⟩ := hbo3
 obtain ⟨q4, q5, q6, q7⟩ := hr 1 (by decide)
 obtain ⟨q8, q9, q10, q11⟩ := hr 2 (by decide)
 conv => arg 2; whnf
 have d0 : wz.drew.cell? ⟨bo, 0, none⟩ = some (.int .i64 3) := by rw [cell_drew_own, cell_of hbo]; rfl
 have d1 : wz.drew.cell? ⟨bo, 1, none⟩ = some (.int .i64 7) := by rw [cell_drew_own, cell_of hbo]; rfl
 have d2 : wz.drew.cell? ⟨bo, 2, none⟩ = some (.int .i64 2) := by rw [cell_drew_own, cell_of hbo]; rfl
 have p4 : wz.drew.cell? ⟨g0, 4, none⟩ = some (.string ⟨#[]⟩) := q4
 have p5 : wz.drew.cell? ⟨g0, 5, none⟩ = some (.int .i64 1) := q5
 have p6 : wz.drew.cell? ⟨g0, 6, none⟩ = some (.string ⟨#[]⟩) := q6
 have p7 : wz.drew.cell? ⟨g0, 7, none⟩ = some (.int .i64 1) := q7
 have p8 : wz.drew.cell? ⟨g0, 8, none⟩ = some (.string ⟨#[]⟩) := q8
 have p9 : wz.drew.cell? ⟨g0, 9, none⟩ = some (.int .i64 2) := q9
 have p10 : wz.drew.cell? ⟨g0, 10, none⟩ = some (.string ⟨#[]⟩) := q10
 have p11 : wz.drew.cell? ⟨g0, 11, none⟩ = some (.int .i64 2) := q11
 have a0 : wz.drew.cell? ⟨b8, 0, none⟩ = some (.string ⟨#[0]⟩) := by rw [cell_drew_own, cell_of h8]; rfl
 have a1 : wz.drew.cell? ⟨b8, 1, none⟩ = some (.int .i64 1) := by rw [cell_drew_own, cell_of h8]; rfl
 have c0 : wz.drew.cell? ⟨b9, 0, none⟩ = some (.string ⟨#[0]⟩) := by rw [cell_drew_own, cell_of h9]; rfl
 have c1 : wz.drew.cell? ⟨b9, 1, none⟩ = some (.int .i64 2) := by rw [cell_drew_own, cell_of h9]; rfl
 clear hbo h8 h9 hp hr q4 q5 q6 q7 q8 q9 q10 q11 hbo2
 refine region_calm ?_
 refine wp_region_held_drew (S := fun w' => Below wz.drew.heap.size wz.drew w') (by kernel_rfl) (Below.refl _ _) (fun hHeld => ?_)
 refine ty0 0 ?vz6 ?hz6 hHeld ?rz6
 case hz6 => (intro w' hb; have e0 := cell_stays hb d0; have e1 := cell_stays hb d1; have e2 := cell_stays hb d2; go_simp <;> with_reducible rfl)
 try simp only [ly]
 refine ty0 2 ?vz7 ?hz7 hHeld ?rz7
 case hz7 => (intro w' hb; go_simp <;> with_reducible rfl)
 try simp only [ly]
 refine ty0 3 ?vz8 ?hz8 hHeld ?rz8
 case hz8 => (intro w' hb; go_simp <;> with_reducible rfl)
 try simp only [ly]
 refine ty0 4 ?vz9 ?hz9 hHeld ?rz9
 case hz9 => (intro w' hb; have e0 := cell_stays hb p4; have e1 := cell_stays hb p5; have e2 := cell_stays hb p6; have e3 := cell_stays hb p7; go_simp <;> with_reducible rfl)
 try simp only [ly]
 refine ty0 5 ?vz10 ?hz10 hHeld ?rz10
 case hz10 => (intro w' hb; go_simp <;> with_reducible rfl)
 try simp only [ly]
 refine ty0 6 ?vz11 ?hz11 hHeld ?rz11
 case hz11 => (intro w' hb; go_simp <;> with_reducible rfl)
 try simp only [ly]
 refine ty0 7 ?vz12 ?hz12 hHeld ?rz12
 case hz12 => (intro w' hb; have e0 := cell_stays hb p8; have e1 := cell_stays hb p9; have e2 := cell_stays hb p10; have e3 := cell_stays hb p11; go_simp <;> with_reducible rfl)
 try simp only [ly]
 refine ty0 8 ?vz13 ?hz13 hHeld ?rz13
 case hz13 => (intro w' hb; have e0 := cell_stays hb a0; have e1 := cell_stays hb a1; go_simp <;> with_reducible rfl)
 try simp only [ly]
 refine ty0 9 ?vz14 ?hz14 hHeld ?rz14
 case hz14 => (intro w' hb; have e0 := cell_stays hb a0; have e1 := cell_stays hb a1; go_simp <;> with_reducible rfl)
 try simp only [ly]
 refine ty0 10 ?vz15 ?hz15 hHeld ?rz15
 case hz15 => (intro w' hb; go_simp <;> with_reducible rfl)
 try simp only [ly]
 refine ty0 11 ?vz16 ?hz16 hHeld ?rz16
 case hz16 => (intro w' hb; have e0 := cell_stays hb c0; have e1 := cell_stays hb c1; go_simp <;> with_reducible rfl)
 try simp only [ly]
 refine ty0 12 ?vz17 ?hz17 hHeld ?rz17
 case hz17 => (intro w' hb; have e0 := cell_stays hb c0; have e1 := cell_stays hb c1; go_simp <;> with_reducible rfl)
 try simp only [ly]
 refine ty0 13 ?vz18 ?hz18 hHeld ?rz18
 case hz18 => (intro w' hb; go_simp <;> with_reducible rfl)
 try simp only [ly]
 refine wpAnyH_ready (show Region.ready _ _ _ = [1, 14, 15] by kernel_rfl) (by simp) (AllReadyH.cons rfl (fun K' hK => ?_) (AllReadyH.cons rfl (fun K' hK => ?_) (AllReadyH.cons rfl (fun K' hK => ?_) (AllReadyH.nil))))
 ·
  go_simp
  have hb2 := (Below.refl wz.drew.heap.size wz.drew).alloc (Nat.le_refl _) (.cells #[.string ⟨#[]⟩, .string ⟨#[0]⟩] 9)
  have hn2 := str_new wz.drew #[.string ⟨#[]⟩, .string ⟨#[0]⟩] 9 _ rfl
  have HBZ2 := Hi ((Below.refl wz.drew.heap.size wz.drew).trans (hb2.mono (Below.refl wz.drew.heap.size wz.drew).size))
  have HH1 := Lib.hid hn2
  have HBZ := Lib.hid HBZ2.out
  clear hb2 hn2 HBZ2
  refine hK.out _ (wz.drew.alloc (.cells #[.string ⟨#[]⟩, .string ⟨#[0]⟩] 9)) HBZ.out (fun hHeld => ?_)
  clear hK K'
  generalize hww : wz.drew.alloc (.cells #[.string ⟨#[]⟩, .string ⟨#[0]⟩] 9) = w1 at *
  clear hww
  try simp only [ly]
  refine wpAnyH_ready (show Region.ready _ _ _ = [14, 15] by kernel_rfl) (by simp) (AllReadyH.cons rfl (fun K' hK => ?_) (AllReadyH.cons rfl (fun K' hK => ?_) (AllReadyH.nil)))
  ·
   go_simp
   have hb2 := (Below.refl w1.heap.size w1).alloc (Nat.le_refl _) (.cells #[.string ⟨#[]⟩, .int .i64 1, .string ⟨#[]⟩, .int .i64 1, .string ⟨#[]⟩, .int .i64 2, .string ⟨#[]⟩, .int .i64 2, .string ⟨#[0]⟩, .int .i64 1, .string ⟨#[0]⟩, .int .i64 1, .string ⟨#[0]⟩, .int .i64 2, .string ⟨#[0]⟩, .int .i64 2] 41)
   have hn2 := str_new w1 #[.string ⟨#[]⟩, .int .i64 1, .string ⟨#[]⟩, .int .i64 1, .string ⟨#[]⟩, .int .i64 2, .string ⟨#[]⟩, .int .i64 2, .string ⟨#[0]⟩, .int .i64 1, .string ⟨#[0]⟩, .int .i64 1, .string ⟨#[0]⟩, .int .i64 2, .string ⟨#[0]⟩, .int .i64 2] 41 _ rfl
   have hk1 := (hb2.block _ (Array.getElem?_eq_some_iff.1 HH1.out).1).trans HH1.out
   have HBZ2 := Hi (HBZ.out.trans (hb2.mono HBZ.out.size))
   have HH1 := Lib.hid hk1
   have HH14 := Lib.hid hn2
   have HBZ := Lib.hid HBZ2.out
   clear hb2 hn2 HBZ2 hk1
   refine hK.out _ (w1.alloc (.cells #[.string ⟨#[]⟩, .int .i64 1, .string ⟨#[]⟩, .int .i64 1, .string ⟨#[]⟩, .int .i64 2, .string ⟨#[]⟩, .int .i64 2, .string ⟨#[0]⟩, .int .i64 1, .string ⟨#[0]⟩, .int .i64 1, .string ⟨#[0]⟩, .int .i64 2, .string ⟨#[0]⟩, .int .i64 2] 41)) HBZ.out (fun hHeld => ?_)
   clear hK K'
   generalize hww : w1.alloc (.cells #[.string ⟨#[]⟩, .int .i64 1, .string ⟨#[]⟩, .int .i64 1, .string ⟨#[]⟩, .int .i64 2, .string ⟨#[]⟩, .int .i64 2, .string ⟨#[0]⟩, .int .i64 1, .string ⟨#[0]⟩, .int .i64 1, .string ⟨#[0]⟩, .int .i64 2, .string ⟨#[0]⟩, .int .i64 2] 41) = w114 at *
   clear hww
   try simp only [ly]
   refine take_step (i := 15) rfl (by kernel_rfl) (fun K' hK => ?_)
   go_simp
   have hb2 := (Below.refl w114.heap.size w114).alloc (Nat.le_refl _) (.cells #[.int .i64 1, .int .i64 3, .int .i64 1] 3)
   have hn2 := str_new w114 #[.int .i64 1, .int .i64 3, .int .i64 1] 3 _ rfl
   have hk1 := (hb2.block _ (Array.getElem?_eq_some_iff.1 HH1.out).1).trans HH1.out
   have hk14 := (hb2.block _ (Array.getElem?_eq_some_iff.1 HH14.out).1).trans HH14.out
   have HBZ2 := Hi (HBZ.out.trans (hb2.mono HBZ.out.size))
   have HH1 := Lib.hid hk1
   have HH14 := Lib.hid hk14
   have HH15 := Lib.hid hn2
   have HBZ := Lib.hid HBZ2.out
   clear hb2 hn2 HBZ2 hk1 hk14
   refine hK.out _ (w114.alloc (.cells #[.int .i64 1, .int .i64 3, .int .i64 1] 3)) HBZ.out (fun hHeld => ?_)
   clear hK K'
   generalize hww : w114.alloc (.cells #[.int .i64 1, .int .i64 3, .int .i64 1] 3) = w11415 at *
   clear hww
   try simp only [ly]
   refine take_step (i := 16) rfl (by kernel_rfl) (fun K' hK => ?_)
   go_simp
   go_at_call 12
   refine (OC.out w11415 wz.drew.heap.size w1.heap.size w114.heap.size (((Below.refl _ wz).drew).trans HBZ.out) HH1.out HH14.out HH15.out).mono ?_
   rintro r w6 ⟨rfl, hb6⟩
   have HB6 := Hi (HBZ.out.trans (hb6.mono HBZ.out.size))
   refine hK.out _ _ HB6.out (fun hHeld => ?_)
   clear hK K'
   try simp only [ly]
   refine ty0 17 ?vz19 ?hz19 hHeld ?rz19
   case hz19 => (intro w' hb; go_simp <;> with_reducible rfl)
   try simp only [ly]
   refine ty0 18 ?vz20 ?hz20 hHeld ?rz20
   case hz20 => (intro w' hb; go_simp <;> with_reducible rfl)
   try simp only [ly]
   refine ty0 19 ?vz21 ?hz21 hHeld ?rz21
   case hz21 => (intro w' hb; go_simp <;> with_reducible rfl)
   try simp only [ly]
   refine ty0 20 ?vz22 ?hz22 hHeld ?rz22
   case hz22 => (intro w' hb; go_simp <;> with_reducible rfl)
   try simp only [ly]
   refine ty0 21 ?vz23 ?hz23 hHeld ?rz23
   case hz23 => (intro w' hb; go_simp <;> with_reducible rfl)
   try simp only [ly]
   refine ty0 22 ?vz24 ?hz24 hHeld ?rz24
   case hz24 => (intro w' hb; go_simp <;> with_reducible rfl)
   try simp only [ly]
   refine ty0 23 ?vz25 ?hz25 hHeld ?rz25
   case hz25 => (intro w' hb; go_simp <;> with_reducible rfl)
   try simp only [ly]
   refine wpAnyH_done (by kernel_rfl) ?_ _
   refine ⟨rfl, ?_⟩
   exact HN.out _ _ _ _ _ _ _ _ _ _ _ _ _ _ _ _ _ _ _ _ _ _ (((Below.refl _ wz).drew).trans HB6.out)
  ·
   go_simp
   have hb2 := (Below.refl w1.heap.size w1).alloc (Nat.le_refl _) (.cells #[.int .i64 1, .int .i64 3, .int .i64 1] 3)
   have hn2 := str_new w1 #[.int .i64 1, .int .i64 3, .int .i64 1] 3 _ rfl
   have hk1 := (hb2.block _ (Array.getElem?_eq_some_iff.1 HH1.out).1).trans HH1.out
   have HBZ2 := Hi (HBZ.out.trans (hb2.mono HBZ.out.size))
   have HH1 := Lib.hid hk1
   have HH15 := Lib.hid hn2
   have HBZ := Lib.hid HBZ2.out
   clear hb2 hn2 HBZ2 hk1
   refine hK.out _ (w1.alloc (.cells #[.int .i64 1, .int .i64 3, .int .i64 1] 3)) HBZ.out (fun hHeld => ?_)
   clear hK K'
   generalize hww : w1.alloc (.cells #[.int .i64 1, .int .i64 3, .int .i64 1] 3) = w115 at *
   clear hww
   try simp only [ly]
   refine take_step (i := 14) rfl (by kernel_rfl) (fun K' hK => ?_)
   go_simp
   have hb2 := (Below.refl w115.heap.size w115).alloc (Nat.le_refl _) (.cells #[.string ⟨#[]⟩, .int .i64 1, .string ⟨#[]⟩, .int .i64 1, .string ⟨#[]⟩, .int .i64 2, .string ⟨#[]⟩, .int .i64 2, .string ⟨#[0]⟩, .int .i64 1, .string ⟨#[0]⟩, .int .i64 1, .string ⟨#[0]⟩, .int .i64 2, .string ⟨#[0]⟩, .int .i64 2] 41)
   have hn2 := str_new w115 #[.string ⟨#[]⟩, .int .i64 1, .string ⟨#[]⟩, .int .i64 1, .string ⟨#[]⟩, .int .i64 2, .string ⟨#[]⟩, .int .i64 2, .string ⟨#[0]⟩, .int .i64 1, .string ⟨#[0]⟩, .int .i64 1, .string ⟨#[0]⟩, .int .i64 2, .string ⟨#[0]⟩, .int .i64 2] 41 _ rfl
   have hk1 := (hb2.block _ (Array.getElem?_eq_some_iff.1 HH1.out).1).trans HH1.out
   have hk15 := (hb2.block _ (Array.getElem?_eq_some_iff.1 HH15.out).1).trans HH15.out
   have HBZ2 := Hi (HBZ.out.trans (hb2.mono HBZ.out.size))
   have HH1 := Lib.hid hk1
   have HH15 := Lib.hid hk15
   have HH14 := Lib.hid hn2
   have HBZ := Lib.hid HBZ2.out
   clear hb2 hn2 HBZ2 hk1 hk15
   refine hK.out _ (w115.alloc (.cells #[.string ⟨#[]⟩, .int .i64 1, .string ⟨#[]⟩, .int .i64 1, .string ⟨#[]⟩, .int .i64 2, .string ⟨#[]⟩, .int .i64 2, .string ⟨#[0]⟩, .int .i64 1, .string ⟨#[0]⟩, .int .i64 1, .string ⟨#[0]⟩, .int .i64 2, .string ⟨#[0]⟩, .int .i64 2] 41)) HBZ.out (fun hHeld => ?_)
   clear hK K'
   generalize hww : w115.alloc (.cells #[.string ⟨#[]⟩, .int .i64 1, .string ⟨#[]⟩, .int .i64 1, .string ⟨#[]⟩, .int .i64 2, .string ⟨#[]⟩, .int .i64 2, .string ⟨#[0]⟩, .int .i64 1, .string ⟨#[0]⟩, .int .i64 1, .string ⟨#[0]⟩, .int .i64 2, .string ⟨#[0]⟩, .int .i64 2] 41) = w11514 at *
   clear hww
   try simp only [ly]
   refine take_step (i := 16) rfl (by kernel_rfl) (fun K' hK => ?_)
   go_simp
   go_at_call 12
   refine (OC.out w11514 wz.drew.heap.size w115.heap.size w1.heap.size (((Below.refl _ wz).drew).trans HBZ.out) HH1.out HH14.out HH15.out).mono ?_
   rintro r w6 ⟨rfl, hb6⟩
   have HB6 := Hi (HBZ.out.trans (hb6.mono HBZ.out.size))
   refine hK.out _ _ HB6.out (fun hHeld => ?_)
   clear hK K'
   try simp only [ly]
   refine ty0 17 ?vz26 ?hz26 hHeld ?rz26
   case hz26 => (intro w' hb; go_simp <;> with_reducible rfl)
   try simp only [ly]
   refine ty0 18 ?vz27 ?hz27 hHeld ?rz27
   case hz27 => (intro w' hb; go_simp <;> with_reducible rfl)
   try simp only [ly]
   refine ty0 19 ?vz28 ?hz28 hHeld ?rz28
   case hz28 => (intro w' hb; go_simp <;> with_reducible rfl)
   try simp only [ly]
   refine ty0 20 ?vz29 ?hz29 hHeld ?rz29
   case hz29 => (intro w' hb; go_simp <;> with_reducible rfl)
   try simp only [ly]
   refine ty0 21 ?vz30 ?hz30 hHeld ?rz30
   case hz30 => (intro w' hb; go_simp <;> with_reducible rfl)
   try simp only [ly]
   refine ty0 22 ?vz31 ?hz31 hHeld ?rz31
   case hz31 => (intro w' hb; go_simp <;> with_reducible rfl)
   try simp only [ly]
   refine ty0 23 ?vz32 ?hz32 hHeld ?rz32
   case hz32 => (intro w' hb; go_simp <;> with_reducible rfl)
   try simp only [ly]
   refine wpAnyH_done (by kernel_rfl) ?_ _
   refine ⟨rfl, ?_⟩
   exact HN.out _ _ _ _ _ _ _ _ _ _ _ _ _ _ _ _ _ _ _ _ _ _ (((Below.refl _ wz).drew).trans HB6.out)
 ·
  go_simp
  have hb2 := (Below.refl wz.drew.heap.size wz.drew).alloc (Nat.le_refl _) (.cells #[.string ⟨#[]⟩, .int .i64 1, .string ⟨#[]⟩, .int .i64 1, .string ⟨#[]⟩, .int .i64 2, .string ⟨#[]⟩, .int .i64 2, .string ⟨#[0]⟩, .int .i64 1, .string ⟨#[0]⟩, .int .i64 1, .string ⟨#[0]⟩, .int .i64 2, .string ⟨#[0]⟩, .int .i64 2] 41)
  have hn2 := str_new wz.drew #[.string ⟨#[]⟩, .int .i64 1, .string ⟨#[]⟩, .int .i64 1, .string ⟨#[]⟩, .int .i64 2, .string ⟨#[]⟩, .int .i64 2, .string ⟨#[0]⟩, .int .i64 1, .string ⟨#[0]⟩, .int .i64 1, .string ⟨#[0]⟩, .int .i64 2, .string ⟨#[0]⟩, .int .i64 2] 41 _ rfl
  have HBZ2 := Hi ((Below.refl wz.drew.heap.size wz.drew).trans (hb2.mono (Below.refl wz.drew.heap.size wz.drew).size))
  have HH14 := Lib.hid hn2
  have HBZ := Lib.hid HBZ2.out
  clear hb2 hn2 HBZ2
  refine hK.out _ (wz.drew.alloc (.cells #[.string ⟨#[]⟩, .int .i64 1, .string ⟨#[]⟩, .int .i64 1, .string ⟨#[]⟩, .int .i64 2, .string ⟨#[]⟩, .int .i64 2, .string ⟨#[0]⟩, .int .i64 1, .string ⟨#[0]⟩, .int .i64 1, .string ⟨#[0]⟩, .int .i64 2, .string ⟨#[0]⟩, .int .i64 2] 41)) HBZ.out (fun hHeld => ?_)
  clear hK K'
  generalize hww : wz.drew.alloc (.cells #[.string ⟨#[]⟩, .int .i64 1, .string ⟨#[]⟩, .int .i64 1, .string ⟨#[]⟩, .int .i64 2, .string ⟨#[]⟩, .int .i64 2, .string ⟨#[0]⟩, .int .i64 1, .string ⟨#[0]⟩, .int .i64 1, .string ⟨#[0]⟩, .int .i64 2, .string ⟨#[0]⟩, .int .i64 2] 41) = w14 at *
  clear hww
  try simp only [ly]
  refine wpAnyH_ready (show Region.ready _ _ _ = [1, 15] by kernel_rfl) (by simp) (AllReadyH.cons rfl (fun K' hK => ?_) (AllReadyH.cons rfl (fun K' hK => ?_) (AllReadyH.nil)))
  ·
   go_simp
   have hb2 := (Below.refl w14.heap.size w14).alloc (Nat.le_refl _) (.cells #[.string ⟨#[]⟩, .string ⟨#[0]⟩] 9)
   have hn2 := str_new w14 #[.string ⟨#[]⟩, .string ⟨#[0]⟩] 9 _ rfl
   have hk14 := (hb2.block _ (Array.getElem?_eq_some_iff.1 HH14.out).1).trans HH14.out
   have HBZ2 := Hi (HBZ.out.trans (hb2.mono HBZ.out.size))
   have HH14 := Lib.hid hk14
   have HH1 := Lib.hid hn2
   have HBZ := Lib.hid HBZ2.out
   clear hb2 hn2 HBZ2 hk14
   refine hK.out _ (w14.alloc (.cells #[.string ⟨#[]⟩, .string ⟨#[0]⟩] 9)) HBZ.out (fun hHeld => ?_)
   clear hK K'
   generalize hww : w14.alloc (.cells #[.string ⟨#[]⟩, .string ⟨#[0]⟩] 9) = w141 at *
   clear hww
   try simp only [ly]
   refine take_step (i := 15) rfl (by kernel_rfl) (fun K' hK => ?_)
   go_simp
   have hb2 := (Below.refl w141.heap.size w141).alloc (Nat.le_refl _) (.cells #[.int .i64 1, .int .i64 3, .int .i64 1] 3)
   have hn2 := str_new w141 #[.int .i64 1, .int .i64 3, .int .i64 1] 3 _ rfl
   have hk14 := (hb2.block _ (Array.getElem?_eq_some_iff.1 HH14.out).1).trans HH14.out
   have hk1 := (hb2.block _ (Array.getElem?_eq_some_iff.1 HH1.out).1).trans HH1.out
   have HBZ2 := Hi (HBZ.out.trans (hb2.mono HBZ.out.size))
   have HH14 := Lib.hid hk14
   have HH1 := Lib.hid hk1
   have HH15 := Lib.hid hn2
   have HBZ := Lib.hid HBZ2.out
   clear hb2 hn2 HBZ2 hk14 hk1
   refine hK.out _ (w141.alloc (.cells #[.int .i64 1, .int .i64 3, .int .i64 1] 3)) HBZ.out (fun hHeld => ?_)
   clear hK K'
   generalize hww : w141.alloc (.cells #[.int .i64 1, .int .i64 3, .int .i64 1] 3) = w14115 at *
   clear hww
   try simp only [ly]
   refine take_step (i := 16) rfl (by kernel_rfl) (fun K' hK => ?_)
   go_simp
   go_at_call 12
   refine (OC.out w14115 w14.heap.size wz.drew.heap.size w141.heap.size (((Below.refl _ wz).drew).trans HBZ.out) HH1.out HH14.out HH15.out).mono ?_
   rintro r w6 ⟨rfl, hb6⟩
   have HB6 := Hi (HBZ.out.trans (hb6.mono HBZ.out.size))
   refine hK.out _ _ HB6.out (fun hHeld => ?_)
   clear hK K'
   try simp only [ly]
   refine ty0 17 ?vz33 ?hz33 hHeld ?rz33
   case hz33 => (intro w' hb; go_simp <;> with_reducible rfl)
   try simp only [ly]
   refine ty0 18 ?vz34 ?hz34 hHeld ?rz34
   case hz34 => (intro w' hb; go_simp <;> with_reducible rfl)
   try simp only [ly]
   refine ty0 19 ?vz35 ?hz35 hHeld ?rz35
   case hz35 => (intro w' hb; go_simp <;> with_reducible rfl)
   try simp only [ly]
   refine ty0 20 ?vz36 ?hz36 hHeld ?rz36
   case hz36 => (intro w' hb; go_simp <;> with_reducible rfl)
   try simp only [ly]
   refine ty0 21 ?vz37 ?hz37 hHeld ?rz37
   case hz37 => (intro w' hb; go_simp <;> with_reducible rfl)
   try simp only [ly]
   refine ty0 22 ?vz38 ?hz38 hHeld ?rz38
   case hz38 => (intro w' hb; go_simp <;> with_reducible rfl)
   try simp only [ly]
   refine ty0 23 ?vz39 ?hz39 hHeld ?rz39
   case hz39 => (intro w' hb; go_simp <;> with_reducible rfl)
   try simp only [ly]
   refine wpAnyH_done (by kernel_rfl) ?_ _
   refine ⟨rfl, ?_⟩
   exact HN.out _ _ _ _ _ _ _ _ _ _ _ _ _ _ _ _ _ _ _ _ _ _ (((Below.refl _ wz).drew).trans HB6.out)
  ·
   go_simp
   have hb2 := (Below.refl w14.heap.size w14).alloc (Nat.le_refl _) (.cells #[.int .i64 1, .int .i64 3, .int .i64 1] 3)
   have hn2 := str_new w14 #[.int .i64 1, .int .i64 3, .int .i64 1] 3 _ rfl
   have hk14 := (hb2.block _ (Array.getElem?_eq_some_iff.1 HH14.out).1).trans HH14.out
   have HBZ2 := Hi (HBZ.out.trans (hb2.mono HBZ.out.size))
   have HH14 := Lib.hid hk14
   have HH15 := Lib.hid hn2
   have HBZ := Lib.hid HBZ2.out
   clear hb2 hn2 HBZ2 hk14
   refine hK.out _ (w14.alloc (.cells #[.int .i64 1, .int .i64 3, .int .i64 1] 3)) HBZ.out (fun hHeld => ?_)
   clear hK K'
   generalize hww : w14.alloc (.cells #[.int .i64 1, .int .i64 3, .int .i64 1] 3) = w1415 at *
   clear hww
   try simp only [ly]
   refine take_step (i := 1) rfl (by kernel_rfl) (fun K' hK => ?_)
   go_simp
   have hb2 := (Below.refl w1415.heap.size w1415).alloc (Nat.le_refl _) (.cells #[.string ⟨#[]⟩, .string ⟨#[0]⟩] 9)
   have hn2 := str_new w1415 #[.string ⟨#[]⟩, .string ⟨#[0]⟩] 9 _ rfl
   have hk14 := (hb2.block _ (Array.getElem?_eq_some_iff.1 HH14.out).1).trans HH14.out
   have hk15 := (hb2.block _ (Array.getElem?_eq_some_iff.1 HH15.out).1).trans HH15.out
   have HBZ2 := Hi (HBZ.out.trans (hb2.mono HBZ.out.size))
   have HH14 := Lib.hid hk14
   have HH15 := Lib.hid hk15
   have HH1 := Lib.hid hn2
   have HBZ := Lib.hid HBZ2.out
   clear hb2 hn2 HBZ2 hk14 hk15
   refine hK.out _ (w1415.alloc (.cells #[.string ⟨#[]⟩, .string ⟨#[0]⟩] 9)) HBZ.out (fun hHeld => ?_)
   clear hK K'
   generalize hww : w1415.alloc (.cells #[.string ⟨#[]⟩, .string ⟨#[0]⟩] 9) = w14151 at *
   clear hww
   try simp only [ly]
   refine take_step (i := 16) rfl (by kernel_rfl) (fun K' hK => ?_)
   go_simp
   go_at_call 12
   refine (OC.out w14151 w1415.heap.size wz.drew.heap.size w14.heap.size (((Below.refl _ wz).drew).trans HBZ.out) HH1.out HH14.out HH15.out).mono ?_
   rintro r w6 ⟨rfl, hb6⟩
   have HB6 := Hi (HBZ.out.trans (hb6.mono HBZ.out.size))
   refine hK.out _ _ HB6.out (fun hHeld => ?_)
   clear hK K'
   try simp only [ly]
   refine ty0 17 ?vz40 ?hz40 hHeld ?rz40
   case hz40 => (intro w' hb; go_simp <;> with_reducible rfl)
   try simp only [ly]
   refine ty0 18 ?vz41 ?hz41 hHeld ?rz41
   case hz41 => (intro w' hb; go_simp <;> with_reducible rfl)
   try simp only [ly]
   refine ty0 19 ?vz42 ?hz42 hHeld ?rz42
   case hz42 => (intro w' hb; go_simp <;> with_reducible rfl)
   try simp only [ly]
   refine ty0 20 ?vz43 ?hz43 hHeld ?rz43
   case hz43 => (intro w' hb; go_simp <;> with_reducible rfl)
   try simp only [ly]
   refine ty0 21 ?vz44 ?hz44 hHeld ?rz44
   case hz44 => (intro w' hb; go_simp <;> with_reducible rfl)
   try simp only [ly]
   refine ty0 22 ?vz45 ?hz45 hHeld ?rz45
   case hz45 => (intro w' hb; go_simp <;> with_reducible rfl)
   try simp only [ly]
   refine ty0 23 ?vz46 ?hz46 hHeld ?rz46
   case hz46 => (intro w' hb; go_simp <;> with_reducible rfl)
   try simp only [ly]
   refine wpAnyH_done (by kernel_rfl) ?_ _
   refine ⟨rfl, ?_⟩
   exact HN.out _ _ _ _ _ _ _ _ _ _ _ _ _ _ _ _ _ _ _ _ _ _ (((Below.refl _ wz).drew).trans HB6.out)
 ·
  go_simp
  have hb2 := (Below.refl wz.drew.heap.size wz.drew).alloc (Nat.le_refl _) (.cells #[.int .i64 1, .int .i64 3, .int .i64 1] 3)
  have hn2 := str_new wz.drew #[.int .i64 1, .int .i64 3, .int .i64 1] 3 _ rfl
  have HBZ2 := Hi ((Below.refl wz.drew.heap.size wz.drew).trans (hb2.mono (Below.refl wz.drew.heap.size wz.drew).size))
  have HH15 := Lib.hid hn2
  have HBZ := Lib.hid HBZ2.out
  clear hb2 hn2 HBZ2
  refine hK.out _ (wz.drew.alloc (.cells #[.int .i64 1, .int .i64 3, .int .i64 1] 3)) HBZ.out (fun hHeld => ?_)
  clear hK K'
  generalize hww : wz.drew.alloc (.cells #[.int .i64 1, .int .i64 3, .int .i64 1] 3) = w15 at *
  clear hww
  try simp only [ly]
  refine wpAnyH_ready (show Region.ready _ _ _ = [1, 14] by kernel_rfl) (by simp) (AllReadyH.cons rfl (fun K' hK => ?_) (AllReadyH.cons rfl (fun K' hK => ?_) (AllReadyH.nil)))
  ·
   go_simp
   have hb2 := (Below.refl w15.heap.size w15).alloc (Nat.le_refl _) (.cells #[.string ⟨#[]⟩, .string ⟨#[0]⟩] 9)
   have hn2 := str_new w15 #[.string ⟨#[]⟩, .string ⟨#[0]⟩] 9 _ rfl
   have hk15 := (hb2.block _ (Array.getElem?_eq_some_iff.1 HH15.out).1).trans HH15.out
   have HBZ2 := Hi (HBZ.out.trans (hb2.mono HBZ.out.size))
   have HH15 := Lib.hid hk15
   have HH1 := Lib.hid hn2
   have HBZ := Lib.hid HBZ2.out
   clear hb2 hn2 HBZ2 hk15
   refine hK.out _ (w15.alloc (.cells #[.string ⟨#[]⟩, .string ⟨#[0]⟩] 9)) HBZ.out (fun hHeld => ?_)
   clear hK K'
   generalize hww : w15.alloc (.cells #[.string ⟨#[]⟩, .string ⟨#[0]⟩] 9) = w151 at *
   clear hww
   try simp only [ly]
   refine take_step (i := 14) rfl (by kernel_rfl) (fun K' hK => ?_)
   go_simp
   have hb2 := (Below.refl w151.heap.size w151).alloc (Nat.le_refl _) (.cells #[.string ⟨#[]⟩, .int .i64 1, .string ⟨#[]⟩, .int .i64 1, .string ⟨#[]⟩, .int .i64 2, .string ⟨#[]⟩, .int .i64 2, .string ⟨#[0]⟩, .int .i64 1, .string ⟨#[0]⟩, .int .i64 1, .string ⟨#[0]⟩, .int .i64 2, .string ⟨#[0]⟩, .int .i64 2] 41)
   have hn2 := str_new w151 #[.string ⟨#[]⟩, .int .i64 1, .string ⟨#[]⟩, .int .i64 1, .string ⟨#[]⟩, .int .i64 2, .string ⟨#[]⟩, .int .i64 2, .string ⟨#[0]⟩, .int .i64 1, .string ⟨#[0]⟩, .int .i64 1, .string ⟨#[0]⟩, .int .i64 2, .string ⟨#[0]⟩, .int .i64 2] 41 _ rfl
   have hk15 := (hb2.block _ (Array.getElem?_eq_some_iff.1 HH15.out).1).trans HH15.out
   have hk1 := (hb2.block _ (Array.getElem?_eq_some_iff.1 HH1.out).1).trans HH1.out
   have HBZ2 := Hi (HBZ.out.trans (hb2.mono HBZ.out.size))
   have HH15 := Lib.hid hk15
   have HH1 := Lib.hid hk1
   have HH14 := Lib.hid hn2
   have HBZ := Lib.hid HBZ2.out
   clear hb2 hn2 HBZ2 hk15 hk1
   refine hK.out _ (w151.alloc (.cells #[.string ⟨#[]⟩, .int .i64 1, .string ⟨#[]⟩, .int .i64 1, .string ⟨#[]⟩, .int .i64 2, .string ⟨#[]⟩, .int .i64 2, .string ⟨#[0]⟩, .int .i64 1, .string ⟨#[0]⟩, .int .i64 1, .string ⟨#[0]⟩, .int .i64 2, .string ⟨#[0]⟩, .int .i64 2] 41)) HBZ.out (fun hHeld => ?_)
   clear hK K'
   generalize hww : w151.alloc (.cells #[.string ⟨#[]⟩, .int .i64 1, .string ⟨#[]⟩, .int .i64 1, .string ⟨#[]⟩, .int .i64 2, .string ⟨#[]⟩, .int .i64 2, .string ⟨#[0]⟩, .int .i64 1, .string ⟨#[0]⟩, .int .i64 1, .string ⟨#[0]⟩, .int .i64 2, .string ⟨#[0]⟩, .int .i64 2] 41) = w15114 at *
   clear hww
   try simp only [ly]
   refine take_step (i := 16) rfl (by kernel_rfl) (fun K' hK => ?_)
   go_simp
   go_at_call 12
   refine (OC.out w15114 w15.heap.size w151.heap.size wz.drew.heap.size (((Below.refl _ wz).drew).trans HBZ.out) HH1.out HH14.out HH15.out).mono ?_
   rintro r w6 ⟨rfl, hb6⟩
   have HB6 := Hi (HBZ.out.trans (hb6.mono HBZ.out.size))
   refine hK.out _ _ HB6.out (fun hHeld => ?_)
   clear hK K'
   try simp only [ly]
   refine ty0 17 ?vz47 ?hz47 hHeld ?rz47
   case hz47 => (intro w' hb; go_simp <;> with_reducible rfl)
   try simp only [ly]
   refine ty0 18 ?vz48 ?hz48 hHeld ?rz48
   case hz48 => (intro w' hb; go_simp <;> with_reducible rfl)
   try simp only [ly]
   refine ty0 19 ?vz49 ?hz49 hHeld ?rz49
   case hz49 => (intro w' hb; go_simp <;> with_reducible rfl)
   try simp only [ly]
   refine ty0 20 ?vz50 ?hz50 hHeld ?rz50
   case hz50 => (intro w' hb; go_simp <;> with_reducible rfl)
   try simp only [ly]
   refine ty0 21 ?vz51 ?hz51 hHeld ?rz51
   case hz51 => (intro w' hb; go_simp <;> with_reducible rfl)
   try simp only [ly]
   refine ty0 22 ?vz52 ?hz52 hHeld ?rz52
   case hz52 => (intro w' hb; go_simp <;> with_reducible rfl)
   try simp only [ly]
   refine ty0 23 ?vz53 ?hz53 hHeld ?rz53
   case hz53 => (intro w' hb; go_simp <;> with_reducible rfl)
   try simp only [ly]
   refine wpAnyH_done (by kernel_rfl) ?_ _
   refine ⟨rfl, ?_⟩
   exact HN.out _ _ _ _ _ _ _ _ _ _ _ _ _ _ _ _ _ _ _ _ _ _ (((Below.refl _ wz).drew).trans HB6.out)
  ·
   go_simp
   have hb2 := (Below.refl w15.heap.size w15).alloc (Nat.le_refl _) (.cells #[.string ⟨#[]⟩, .int .i64 1, .string ⟨#[]⟩, .int .i64 1, .string ⟨#[]⟩, .int .i64 2, .string ⟨#[]⟩, .int .i64 2, .string ⟨#[0]⟩, .int .i64 1, .string ⟨#[0]⟩, .int .i64 1, .string ⟨#[0]⟩, .int .i64 2, .string ⟨#[0]⟩, .int .i64 2] 41)
   have hn2 := str_new w15 #[.string ⟨#[]⟩, .int .i64 1, .string ⟨#[]⟩, .int .i64 1, .string ⟨#[]⟩, .int .i64 2, .string ⟨#[]⟩, .int .i64 2, .string ⟨#[0]⟩, .int .i64 1, .string ⟨#[0]⟩, .int .i64 1, .string ⟨#[0]⟩, .int .i64 2, .string ⟨#[0]⟩, .int .i64 2] 41 _ rfl
   have hk15 := (hb2.block _ (Array.getElem?_eq_some_iff.1 HH15.out).1).trans HH15.out
   have HBZ2 := Hi (HBZ.out.trans (hb2.mono HBZ.out.size))
   have HH15 := Lib.hid hk15
   have HH14 := Lib.hid hn2
   have HBZ := Lib.hid HBZ2.out
   clear hb2 hn2 HBZ2 hk15
   refine hK.out _ (w15.alloc (.cells #[.string ⟨#[]⟩, .int .i64 1, .string ⟨#[]⟩, .int .i64 1, .string ⟨#[]⟩, .int .i64 2, .string ⟨#[]⟩, .int .i64 2, .string ⟨#[0]⟩, .int .i64 1, .string ⟨#[0]⟩, .int .i64 1, .string ⟨#[0]⟩, .int .i64 2, .string ⟨#[0]⟩, .int .i64 2] 41)) HBZ.out (fun hHeld => ?_)
   clear hK K'
   generalize hww : w15.alloc (.cells #[.string ⟨#[]⟩, .int .i64 1, .string ⟨#[]⟩, .int .i64 1, .string ⟨#[]⟩, .int .i64 2, .string ⟨#[]⟩, .int .i64 2, .string ⟨#[0]⟩, .int .i64 1, .string ⟨#[0]⟩, .int .i64 1, .string ⟨#[0]⟩, .int .i64 2, .string ⟨#[0]⟩, .int .i64 2] 41) = w1514 at *
   clear hww
   try simp only [ly]
   refine take_step (i := 1) rfl (by kernel_rfl) (fun K' hK => ?_)
   go_simp
   have hb2 := (Below.refl w1514.heap.size w1514).alloc (Nat.le_refl _) (.cells #[.string ⟨#[]⟩, .string ⟨#[0]⟩] 9)
   have hn2 := str_new w1514 #[.string ⟨#[]⟩, .string ⟨#[0]⟩] 9 _ rfl
   have hk15 := (hb2.block _ (Array.getElem?_eq_some_iff.1 HH15.out).1).trans HH15.out
   have hk14 := (hb2.block _ (Array.getElem?_eq_some_iff.1 HH14.out).1).trans HH14.out
   have HBZ2 := Hi (HBZ.out.trans (hb2.mono HBZ.out.size))
   have HH15 := Lib.hid hk15
   have HH14 := Lib.hid hk14
   have HH1 := Lib.hid hn2
   have HBZ := Lib.hid HBZ2.out
   clear hb2 hn2 HBZ2 hk15 hk14
   refine hK.out _ (w1514.alloc (.cells #[.string ⟨#[]⟩, .string ⟨#[0]⟩] 9)) HBZ.out (fun hHeld => ?_)
   clear hK K'
   generalize hww : w1514.alloc (.cells #[.string ⟨#[]⟩, .string ⟨#[0]⟩] 9) = w15141 at *
   clear hww
   try simp only [ly]
   refine take_step (i := 16) rfl (by kernel_rfl) (fun K' hK => ?_)
   go_simp
   go_at_call 12
   refine (OC.out w15141 w1514.heap.size w15.heap.size wz.drew.heap.size (((Below.refl _ wz).drew).trans HBZ.out) HH1.out HH14.out HH15.out).mono ?_
   rintro r w6 ⟨rfl, hb6⟩
   have HB6 := Hi (HBZ.out.trans (hb6.mono HBZ.out.size))
   refine hK.out _ _ HB6.out (fun hHeld => ?_)
   clear hK K'
   try simp only [ly]
   refine ty0 17 ?vz54 ?hz54 hHeld ?rz54
   case hz54 => (intro w' hb; go_simp <;> with_reducible rfl)
   try simp only [ly]
   refine ty0 18 ?vz55 ?hz55 hHeld ?rz55
   case hz55 => (intro w' hb; go_simp <;> with_reducible rfl)
   try simp only [ly]
   refine ty0 19 ?vz56 ?hz56 hHeld ?rz56
   case hz56 => (intro w' hb; go_simp <;> with_reducible rfl)
   try simp only [ly]
   refine ty0 20 ?vz57 ?hz57 hHeld ?rz57
   case hz57 => (intro w' hb; go_simp <;> with_reducible rfl)
   try simp only [ly]
   refine ty0 21 ?vz58 ?hz58 hHeld ?rz58
   case hz58 => (intro w' hb; go_simp <;> with_reducible rfl)
   try simp only [ly]
   refine ty0 22 ?vz59 ?hz59 hHeld ?rz59
   case hz59 => (intro w' hb; go_simp <;> with_reducible rfl)
   try simp only [ly]
   refine ty0 23 ?vz60 ?hz60 hHeld ?rz60
   case hz60 => (intro w' hb; go_simp <;> with_reducible rfl)
   try simp only [ly]
   refine wpAnyH_done (by kernel_rfl) ?_ _
   refine ⟨rfl, ?_⟩
   exact HN.out _ _ _ _ _ _ _ _ _ _ _ _ _ _ _ _ _ _ _ _ _ _ (((Below.refl _ wz).drew).trans HB6.out)
end Go.Proofs.Ytkndmibmmoikbaa
