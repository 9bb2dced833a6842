/- Chapter 10: Sy2 Sy3 Sy4 Sy5 Sy6 Sy7. -/
import Derived.Test.YtkndmibmmoikbaaD41
import Derived.ChangeKeysEq
set_option linter.all false
set_option maxRecDepth 100000
set_option maxHeartbeats 16000000
namespace Go.Proofs.Ytkndmibmmoikbaa
open Go.RowKit
open Cox (Tl)
def loopR (n : Nat) : Code → Option Code
 | .loop c => match onlyR n c with
  | some _ => some (.loop c)
  | none => none
 | .seq a b => match loopR n a with
  | some c => some c
  | none => loopR n b
 | .cond _ a b => match loopR n a with
  | some c => some c
  | none => loopR n b
 | .block _ c => loopR n c
 | _ => none
theorem info40s : ∃ i, Try.prog.info? 40 = some i := by
 have h : (Try.prog.info? 40).isSome = true := by kernel_rfl
 exact Option.isSome_iff_exists.1 h
theorem eq40 (d : Nat) (s : ByteArray) (a : Int) (w : World) : (Op.equalIn (d + 2) 40 (.agg #[.string s, .int .i64 a]) (.agg #[.string s, .int .i64 a])).run Try.prog w = .ok true w := by
 rw [run_equalIn_agg w (d + 1) 40 _ _ (by kernel_rfl) (by kernel_rfl)]
 have hf : (Try.prog.fieldsOf 40).toList = [{ name := "Tile", type := 9, offset := 0, embedded := false, tag := "", pkgPath := "", byteOffset := 0 }, { name := "Mirror", type := 3, offset := 1, embedded := false, tag := "", pkgPath := "", byteOffset := 16 }] := by kernel_rfl
 rw [hf]
 simp [Op.eqFields, go_sem]
theorem neq41 (s t : ByteArray) (a b : Int) (w : World) : (binOp .neq 41 (.agg #[.string s, .int .i64 a, .string t, .int .i64 b]) (.agg #[.string s, .int .i64 a, .string t, .int .i64 b])).run Try.prog w = .ok (.bool false) w := by
 obtain ⟨i, hi⟩ := info40s
 have h40 : Try.prog.cellsOf 40 = 2 := by kernel_rfl
 have e1 := eq40 9997 s a w
 have e2 := eq40 9997 t b w
 have h : (Op.equalIn 10000 41 (.agg #[.string s, .int .i64 a, .string t, .int .i64 b]) (.agg #[.string s, .int .i64 a, .string t, .int .i64 b])).run Try.prog w = .ok true w := by
  rw [run_equalIn_array (P := Try.prog) w 9999 _ _ Try.underlying41 hi, h40]
  have r2 : List.range 2 = [0, 1] := rfl
  rw [r2]
  simp only [Op.eqItems]
  simp [go_sem, e1, e2]
 simp [go_sem, h]
theorem neq43 (a b c d : Int) (w : World) : (binOp .neq 43 (.agg #[.int .i64 a, .int .i64 b, .int .i64 c, .int .i64 d]) (.agg #[.int .i64 a, .int .i64 b, .int .i64 c, .int .i64 d])).run Try.prog w = .ok (.bool false) w := by
 have h : (Op.equalIn 10000 43 (.agg #[.int .i64 a, .int .i64 b, .int .i64 c, .int .i64 d]) (.agg #[.int .i64 a, .int .i64 b, .int .i64 c, .int .i64 d])).run Try.prog w = .ok true w := by
  rw [run_equalIn_agg w 9999 43 _ _ (by kernel_rfl) (by kernel_rfl)]
  have hf : (Try.prog.fieldsOf 43).toList = [{ name := "Kind", type := 3, offset := 0, embedded := false, tag := "", pkgPath := "", byteOffset := 0 }, { name := "At", type := 3, offset := 1, embedded := false, tag := "", pkgPath := "", byteOffset := 8 }, { name := "I", type := 3, offset := 2, embedded := false, tag := "", pkgPath := "", byteOffset := 16 }, { name := "J", type := 3, offset := 3, embedded := false, tag := "", pkgPath := "", byteOffset := 24 }] := by kernel_rfl
  rw [hf]
  simp [Op.eqFields, go_sem]
 simp [go_sem, h]
noncomputable def staysL16 : Code := (Try.f4.body.bind (loopR 16)).getD .skip
theorem stays_l16 {Q : Exit → Act → World → Prop} {p q : Option Addr} {c d : Nat} {ts : List ByteArray} {ds : List Deferred} {wz : World} (ha : StrsAt wz p ts) (hq : StrsAt wz q ts) (hl : ts.length ≤ 2000000) {u0 u2 u3 u4 u5 u6 u7 u8 u9 u10 u11 u12 u14 u15 u16 u17 u18 u19 u20 u21 u22 u23 u24 u25 u26 u27 u28 u29 u30 u31 u32 u33 u34 u35 u36 u37 u38 u39 u40 u41 u42 u43 u44 u45 u46 u47 u48 u49 u50 u51 u52 u53 u54 u55 u56 u57 u58 u59 u60 u61 u62 u63 u64 u65 u66 u67 u68 u69 u72 u73 u74 u75 u76 u77 u78 u79 u80 u81 u82 u83 u84 u85 u86 u87 u88 u89 u90 u91 u92 u93 u94 u95 u96 u97 u98 u99 u100 u101 u102 u103 u104 u105 u106 u107 u108 u109 u110 u111 u112 u113 u114 u115 u116 u117 u118 u119 u120 u121 u122 u123 u124 u125 u126 u127 u128 u129 u130 u131 u132 u133 u134 : Value}
 (hN : ∀ m (n18 n71 n72 n73 n74 n75 n76 n77 n78 n79 n80 n81 n82 n83 : Value), Q (.exit 0) ⟨#[u0, .slice p ts.length c, u2, u3, u4, u5, u6, u7, u8, u9, u10, u11, u12, .slice q ts.length d, u14, u15, u16, u17, n18, u19, u20, u21, u22, u23, u24, u25, u26, u27, u28, u29, u30, u31, u32, u33, u34, u35, u36, u37, u38, u39, u40, u41, u42, u43, u44, u45, u46, u47, u48, u49, u50, u51, u52, u53, u54, u55, u56, u57, u58, u59, u60, u61, u62, u63, u64, u65, u66, u67, u68, u69, .int .i64 (ts.length : Int), n71, n72, n73, n74, n75, n76, n77, n78, n79, n80, n81, n82, n83, u84, u85, u86, u87, u88, u89, u90, u91, u92, u93, u94, u95, u96, u97, u98, u99, u100, u101, u102, u103, u104, u105, u106, u107, u108, u109, u110, u111, u112, u113, u114, u115, u116, u117, u118, u119, u120, u121, u122, u123, u124, u125, u126, u127, u128, u129, u130, u131, u132, u133, u134], ds⟩ (wz.drewN m)) :
 Code.wp Try.prog staysL16 Q ⟨#[u0, .slice p ts.length c, u2, u3, u4, u5, u6, u7, u8, u9, u10, u11, u12, .slice q ts.length d, u14, u15, u16, u17, u18, u19, u20, u21, u22, u23, u24, u25, u26, u27, u28, u29, u30, u31, u32, u33, u34, u35, u36, u37, u38, u39, u40, u41, u42, u43, u44, u45, u46, u47, u48, u49, u50, u51, u52, u53, u54, u55, u56, u57, u58, u59, u60, u61, u62, u63, u64, u65, u66, u67, u68, u69, .int .i64 (ts.length : Int), .int .i64 0, u72, u73, u74, u75, u76, u77, u78, u79, u80, u81, u82, u83, u84, u85, u86, u87, u88, u89, u90, u91, u92, u93, u94, u95, u96, u97, u98, u99, u100, u101, u102, u103, u104, u105, u106, u107, u108, u109, u110, u111, u112, u113, u114, u115, u116, u117, u118, u119, u120, u121, u122, u123, u124, u125, u126, u127, u128, u129, u130, u131, u132, u133, u134], ds⟩ wz := by
 have HN := Lib.hid hN
 have HA := Hi (And.intro ha hq)
 clear hN ha hq
 conv => arg 2; whnf
 dsimp only
 go_loopw [12, 71] (fun r t wr => ∃ (k m : Nat), t = .int .i64 (k : Nat) ∧ k ≤ ts.length ∧ wr = wz.drewN m ∧ r = u12) (fun _ t _ => ts.length - (intOf t).toNat)
 case atStart => exact ⟨0, 0, rfl, by omega, rfl, rfl⟩
 case round =>
  obtain ⟨k, m, rfl, hk, rfl, rfl⟩ := hrel
  by_cases hlt : k < ts.length
  · have hne : ts ≠ [] := by intro h; rw [h] at hlt; simp at hlt
    obtain ⟨b1, o1, rfl, hr1⟩ := HA.out.1 hne
    obtain ⟨b2, o2, rfl, hr2⟩ := HA.out.2 hne
    have k1 : (k : Int) < (ts.length : Int) := by omega
    have k2 : (0 : Int) ≤ (k : Int) := by omega
    have c1 : wz.cell? ⟨b1, o1 + k, none⟩ = some (.string ts[k]) := hr1 k hlt
    have c2 : wz.cell? ⟨b2, o2 + k, none⟩ = some (.string ts[k]) := hr2 k hlt
    clear hr1 hr2 hne
    generalize ts[k] = x at *
    go_wp2_with fail
    go_quiet (fail)
    all_goals
     go_wp2_with fail
     go_roundw
     case rel => exact ⟨k + 1, _, by go_num, by omega, by first | rfl | (simp only [World.drewN, Nat.add_assoc]; rfl), rfl⟩
     case measure => simp [intOf]; omega
  · have hke : k = ts.length := by omega
    subst hke
    have k1 : ¬ (ts.length : Int) < (ts.length : Int) := by omega
    go_wp2_with fail
    exact HN.out m _ _ _ _ _ _ _ _ _ _ _ _ _ _
noncomputable def staysL22 : Code := (Try.f4.body.bind (loopR 22)).getD .skip
theorem stays_l22 {Q : Exit → Act → World → Prop} {p q : Option Addr} {c d : Nat} {ps : List PairD} {ds : List Deferred} {wz : World} (ha : PairsAt wz p ps) (hq : PairsAt wz q ps) (hl : ps.length ≤ 2000000) {u0 u1 u3 u4 u5 u6 u7 u8 u9 u10 u11 u12 u13 u15 u16 u17 u18 u19 u20 u21 u22 u23 u24 u25 u26 u27 u28 u29 u30 u31 u32 u33 u34 u35 u36 u37 u38 u39 u40 u41 u42 u43 u44 u45 u46 u47 u48 u49 u50 u51 u52 u53 u54 u55 u56 u57 u58 u59 u60 u61 u62 u63 u64 u65 u66 u67 u68 u69 u70 u71 u72 u73 u74 u75 u76 u77 u78 u79 u80 u81 u82 u83 u84 u87 u88 u89 u90 u91 u92 u93 u94 u95 u96 u97 u98 u99 u100 u101 u102 u103 u104 u105 u106 u107 u108 u109 u110 u111 u112 u113 u114 u115 u116 u117 u118 u119 u120 u121 u122 u123 u124 u125 u126 u127 u128 u129 u130 u131 u132 u133 u134 : Value}
 (hN : ∀ m (n19 n86 n87 n88 n89 n90 n91 n92 n93 n94 n95 n96 n97 n98 : Value), Q (.exit 2) ⟨#[u0, u1, .slice p ps.length c, u3, u4, u5, u6, u7, u8, u9, u10, u11, u12, u13, .slice q ps.length d, u15, u16, u17, u18, n19, u20, u21, u22, u23, u24, u25, u26, u27, u28, u29, u30, u31, u32, u33, u34, u35, u36, u37, u38, u39, u40, u41, u42, u43, u44, u45, u46, u47, u48, u49, u50, u51, u52, u53, u54, u55, u56, u57, u58, u59, u60, u61, u62, u63, u64, u65, u66, u67, u68, u69, u70, u71, u72, u73, u74, u75, u76, u77, u78, u79, u80, u81, u82, u83, u84, .int .i64 (ps.length : Int), n86, n87, n88, n89, n90, n91, n92, n93, n94, n95, n96, n97, n98, u99, u100, u101, u102, u103, u104, u105, u106, u107, u108, u109, u110, u111, u112, u113, u114, u115, u116, u117, u118, u119, u120, u121, u122, u123, u124, u125, u126, u127, u128, u129, u130, u131, u132, u133, u134], ds⟩ (wz.drewN m)) :
 Code.wp Try.prog staysL22 Q ⟨#[u0, u1, .slice p ps.length c, u3, u4, u5, u6, u7, u8, u9, u10, u11, u12, u13, .slice q ps.length d, u15, u16, u17, u18, u19, u20, u21, u22, u23, u24, u25, u26, u27, u28, u29, u30, u31, u32, u33, u34, u35, u36, u37, u38, u39, u40, u41, u42, u43, u44, u45, u46, u47, u48, u49, u50, u51, u52, u53, u54, u55, u56, u57, u58, u59, u60, u61, u62, u63, u64, u65, u66, u67, u68, u69, u70, u71, u72, u73, u74, u75, u76, u77, u78, u79, u80, u81, u82, u83, u84, .int .i64 (ps.length : Int), .int .i64 0, u87, u88, u89, u90, u91, u92, u93, u94, u95, u96, u97, u98, u99, u100, u101, u102, u103, u104, u105, u106, u107, u108, u109, u110, u111, u112, u113, u114, u115, u116, u117, u118, u119, u120, u121, u122, u123, u124, u125, u126, u127, u128, u129, u130, u131, u132, u133, u134], ds⟩ wz := by
 have HN := Lib.hid hN
 have HA := Hi (And.intro ha hq)
 clear hN ha hq
 conv => arg 2; whnf
 dsimp only
 go_loopw [12, 86] (fun r t wr => ∃ (k m : Nat), t = .int .i64 (k : Nat) ∧ k ≤ ps.length ∧ wr = wz.drewN m ∧ r = u12) (fun _ t _ => ps.length - (intOf t).toNat)
 case atStart => exact ⟨0, 0, rfl, by omega, rfl, rfl⟩
 case round =>
  obtain ⟨k, m, rfl, hk, rfl, rfl⟩ := hrel
  by_cases hlt : k < ps.length
  · have hne : ps ≠ [] := by intro h; rw [h] at hlt; simp at hlt
    obtain ⟨b1, o1, rfl, hr1⟩ := HA.out.1 hne
    obtain ⟨b2, o2, rfl, hr2⟩ := HA.out.2 hne
    have k1 : (k : Int) < (ps.length : Int) := by omega
    have k2 : (0 : Int) ≤ (k : Int) := by omega
    obtain ⟨e10, e11, e12, e13⟩ := hr1 k hlt
    have c10 : wz.cell? ⟨b1, o1 + k * 4, none⟩ = some (.string ps[k].1.tile) := e10
    have c11 : wz.cell? ⟨b1, o1 + k * 4 + 1, none⟩ = some (.int .i64 ps[k].1.mir) := e11
    have c12 : wz.cell? ⟨b1, o1 + k * 4 + 2, none⟩ = some (.string ps[k].2.tile) := e12
    have c13 : wz.cell? ⟨b1, o1 + k * 4 + 3, none⟩ = some (.int .i64 ps[k].2.mir) := e13
    clear e10 e11 e12 e13
    obtain ⟨e20, e21, e22, e23⟩ := hr2 k hlt
    have c20 : wz.cell? ⟨b2, o2 + k * 4, none⟩ = some (.string ps[k].1.tile) := e20
    have c21 : wz.cell? ⟨b2, o2 + k * 4 + 1, none⟩ = some (.int .i64 ps[k].1.mir) := e21
    have c22 : wz.cell? ⟨b2, o2 + k * 4 + 2, none⟩ = some (.string ps[k].2.tile) := e22
    have c23 : wz.cell? ⟨b2, o2 + k * 4 + 3, none⟩ = some (.int .i64 ps[k].2.mir) := e23
    clear e20 e21 e22 e23
    clear hr1 hr2 hne
    generalize ps[k] = x at *
    have hnq := neq41 x.1.tile x.2.tile x.1.mir x.2.mir
    go_wp2_with fail
    go_quiet (fail)
    all_goals
     go_wp2_with fail
     go_roundw
     case rel => exact ⟨k + 1, _, by go_num, by omega, by first | rfl | (simp only [World.drewN, Nat.add_assoc]; rfl), rfl⟩
     case measure => simp [intOf]; omega
  · have hke : k = ps.length := by omega
    subst hke
    have k1 : ¬ (ps.length : Int) < (ps.length : Int) := by omega
    go_wp2_with fail
    exact HN.out m _ _ _ _ _ _ _ _ _ _ _ _ _ _
noncomputable def staysL28 : Code := (Try.f4.body.bind (loopR 28)).getD .skip
theorem stays_l28 {Q : Exit → Act → World → Prop} {p q : Option Addr} {c d : Nat} {rs : List Int} {ds : List Deferred} {wz : World} (ha : IntsAt wz p rs) (hq : IntsAt wz q rs) (hl : rs.length ≤ 2000000) {u0 u1 u2 u3 u5 u6 u7 u8 u9 u10 u11 u12 u13 u14 u16 u17 u18 u19 u20 u21 u22 u23 u24 u25 u26 u27 u28 u29 u30 u31 u32 u33 u34 u35 u36 u37 u38 u39 u40 u41 u42 u43 u44 u45 u46 u47 u48 u49 u50 u51 u52 u53 u54 u55 u56 u57 u58 u59 u60 u61 u62 u63 u64 u65 u66 u67 u68 u69 u70 u71 u72 u73 u74 u75 u76 u77 u78 u79 u80 u81 u82 u83 u84 u85 u86 u87 u88 u89 u90 u91 u92 u93 u94 u95 u96 u97 u98 u99 u102 u103 u104 u105 u106 u107 u108 u109 u110 u111 u112 u113 u114 u115 u116 u117 u118 u119 u120 u121 u122 u123 u124 u125 u126 u127 u128 u129 u130 u131 u132 u133 u134 : Value}
 (hN : ∀ m (n20 n101 n102 n103 n104 n105 n106 n107 n108 n109 n110 n111 n112 n113 : Value), Q (.exit 4) ⟨#[u0, u1, u2, u3, .slice p rs.length c, u5, u6, u7, u8, u9, u10, u11, u12, u13, u14, .slice q rs.length d, u16, u17, u18, u19, n20, u21, u22, u23, u24, u25, u26, u27, u28, u29, u30, u31, u32, u33, u34, u35, u36, u37, u38, u39, u40, u41, u42, u43, u44, u45, u46, u47, u48, u49, u50, u51, u52, u53, u54, u55, u56, u57, u58, u59, u60, u61, u62, u63, u64, u65, u66, u67, u68, u69, u70, u71, u72, u73, u74, u75, u76, u77, u78, u79, u80, u81, u82, u83, u84, u85, u86, u87, u88, u89, u90, u91, u92, u93, u94, u95, u96, u97, u98, u99, .int .i64 (rs.length : Int), n101, n102, n103, n104, n105, n106, n107, n108, n109, n110, n111, n112, n113, u114, u115, u116, u117, u118, u119, u120, u121, u122, u123, u124, u125, u126, u127, u128, u129, u130, u131, u132, u133, u134], ds⟩ (wz.drewN m)) :
 Code.wp Try.prog staysL28 Q ⟨#[u0, u1, u2, u3, .slice p rs.length c, u5, u6, u7, u8, u9, u10, u11, u12, u13, u14, .slice q rs.length d, u16, u17, u18, u19, u20, u21, u22, u23, u24, u25, u26, u27, u28, u29, u30, u31, u32, u33, u34, u35, u36, u37, u38, u39, u40, u41, u42, u43, u44, u45, u46, u47, u48, u49, u50, u51, u52, u53, u54, u55, u56, u57, u58, u59, u60, u61, u62, u63, u64, u65, u66, u67, u68, u69, u70, u71, u72, u73, u74, u75, u76, u77, u78, u79, u80, u81, u82, u83, u84, u85, u86, u87, u88, u89, u90, u91, u92, u93, u94, u95, u96, u97, u98, u99, .int .i64 (rs.length : Int), .int .i64 0, u102, u103, u104, u105, u106, u107, u108, u109, u110, u111, u112, u113, u114, u115, u116, u117, u118, u119, u120, u121, u122, u123, u124, u125, u126, u127, u128, u129, u130, u131, u132, u133, u134], ds⟩ wz := by
 have HN := Lib.hid hN
 have HA := Hi (And.intro ha hq)
 clear hN ha hq
 conv => arg 2; whnf
 dsimp only
 go_loopw [12, 101] (fun r t wr => ∃ (k m : Nat), t = .int .i64 (k : Nat) ∧ k ≤ rs.length ∧ wr = wz.drewN m ∧ r = u12) (fun _ t _ => rs.length - (intOf t).toNat)
 case atStart => exact ⟨0, 0, rfl, by omega, rfl, rfl⟩
 case round =>
  obtain ⟨k, m, rfl, hk, rfl, rfl⟩ := hrel
  by_cases hlt : k < rs.length
  · have hne : rs ≠ [] := by intro h; rw [h] at hlt; simp at hlt
    obtain ⟨b1, o1, rfl, hr1⟩ := HA.out.1 hne
    obtain ⟨b2, o2, rfl, hr2⟩ := HA.out.2 hne
    have k1 : (k : Int) < (rs.length : Int) := by omega
    have k2 : (0 : Int) ≤ (k : Int) := by omega
    have c1 : wz.cell? ⟨b1, o1 + k, none⟩ = some (.int .i64 rs[k]) := hr1 k hlt
    have c2 : wz.cell? ⟨b2, o2 + k, none⟩ = some (.int .i64 rs[k]) := hr2 k hlt
    clear hr1 hr2 hne
    generalize rs[k] = x at *
    have hnq : (x == x) = true := by simp
    go_wp2_with fail
    go_quiet (fail)
    all_goals
     go_wp2_with fail
     go_roundw
     case rel => exact ⟨k + 1, _, by go_num, by omega, by first | rfl | (simp only [World.drewN, Nat.add_assoc]; rfl), rfl⟩
     case measure => simp [intOf]; omega
  · have hke : k = rs.length := by omega
    subst hke
    have k1 : ¬ (rs.length : Int) < (rs.length : Int) := by omega
    go_wp2_with fail
    exact HN.out m _ _ _ _ _ _ _ _ _ _ _ _ _ _
noncomputable def staysL34 : Code := (Try.f4.body.bind (loopR 34)).getD .skip
theorem stays_l34 {Q : Exit → Act → World → Prop} {p q : Option Addr} {c d : Nat} {ss : List StepD} {ds : List Deferred} {wz : World} (ha : StepsAt wz p ss) (hq : StepsAt wz q ss) (hl : ss.length ≤ 2000000) {u0 u1 u2 u3 u4 u6 u7 u8 u9 u10 u11 u12 u13 u14 u15 u17 u18 u19 u20 u21 u22 u23 u24 u25 u26 u27 u28 u29 u30 u31 u32 u33 u34 u35 u36 u37 u38 u39 u40 u41 u42 u43 u44 u45 u46 u47 u48 u49 u50 u51 u52 u53 u54 u55 u56 u57 u58 u59 u60 u61 u62 u63 u64 u65 u66 u67 u68 u69 u70 u71 u72 u73 u74 u75 u76 u77 u78 u79 u80 u81 u82 u83 u84 u85 u86 u87 u88 u89 u90 u91 u92 u93 u94 u95 u96 u97 u98 u99 u100 u101 u102 u103 u104 u105 u106 u107 u108 u109 u110 u111 u112 u113 u114 u117 u118 u119 u120 u121 u122 u123 u124 u125 u126 u127 u128 u129 u130 u131 u132 u133 u134 : Value}
 (hN : ∀ m (n21 n116 n117 n118 n119 n120 n121 n122 n123 n124 n125 n126 n127 n128 : Value), Q (.exit 6) ⟨#[u0, u1, u2, u3, u4, .slice p ss.length c, u6, u7, u8, u9, u10, u11, u12, u13, u14, u15, .slice q ss.length d, u17, u18, u19, u20, n21, u22, u23, u24, u25, u26, u27, u28, u29, u30, u31, u32, u33, u34, u35, u36, u37, u38, u39, u40, u41, u42, u43, u44, u45, u46, u47, u48, u49, u50, u51, u52, u53, u54, u55, u56, u57, u58, u59, u60, u61, u62, u63, u64, u65, u66, u67, u68, u69, u70, u71, u72, u73, u74, u75, u76, u77, u78, u79, u80, u81, u82, u83, u84, u85, u86, u87, u88, u89, u90, u91, u92, u93, u94, u95, u96, u97, u98, u99, u100, u101, u102, u103, u104, u105, u106, u107, u108, u109, u110, u111, u112, u113, u114, .int .i64 (ss.length : Int), n116, n117, n118, n119, n120, n121, n122, n123, n124, n125, n126, n127, n128, u129, u130, u131, u132, u133, u134], ds⟩ (wz.drewN m)) :
 Code.wp Try.prog staysL34 Q ⟨#[u0, u1, u2, u3, u4, .slice p ss.length c, u6, u7, u8, u9, u10, u11, u12, u13, u14, u15, .slice q ss.length d, u17, u18, u19, u20, u21, u22, u23, u24, u25, u26, u27, u28, u29, u30, u31, u32, u33, u34, u35, u36, u37, u38, u39, u40, u41, u42, u43, u44, u45, u46, u47, u48, u49, u50, u51, u52, u53, u54, u55, u56, u57, u58, u59, u60, u61, u62, u63, u64, u65, u66, u67, u68, u69, u70, u71, u72, u73, u74, u75, u76, u77, u78, u79, u80, u81, u82, u83, u84, u85, u86, u87, u88, u89, u90, u91, u92, u93, u94, u95, u96, u97, u98, u99, u100, u101, u102, u103, u104, u105, u106, u107, u108, u109, u110, u111, u112, u113, u114, .int .i64 (ss.length : Int), .int .i64 0, u117, u118, u119, u120, u121, u122, u123, u124, u125, u126, u127, u128, u129, u130, u131, u132, u133, u134], ds⟩ wz := by
 have HN := Lib.hid hN
 have HA := Hi (And.intro ha hq)
 clear hN ha hq
 conv => arg 2; whnf
 dsimp only
 go_loopw [12, 116] (fun r t wr => ∃ (k m : Nat), t = .int .i64 (k : Nat) ∧ k ≤ ss.length ∧ wr = wz.drewN m ∧ r = u12) (fun _ t _ => ss.length - (intOf t).toNat)
 case atStart => exact ⟨0, 0, rfl, by omega, rfl, rfl⟩
 case round =>
  obtain ⟨k, m, rfl, hk, rfl, rfl⟩ := hrel
  by_cases hlt : k < ss.length
  · have hne : ss ≠ [] := by intro h; rw [h] at hlt; simp at hlt
    obtain ⟨b1, o1, rfl, hr1⟩ := HA.out.1 hne
    obtain ⟨b2, o2, rfl, hr2⟩ := HA.out.2 hne
    have k1 : (k : Int) < (ss.length : Int) := by omega
    have k2 : (0 : Int) ≤ (k : Int) := by omega
    obtain ⟨e10, e11, e12, e13⟩ := hr1 k hlt
    have c10 : wz.cell? ⟨b1, o1 + k * 4, none⟩ = some (.int .i64 ss[k].kind) := e10
    have c11 : wz.cell? ⟨b1, o1 + k * 4 + 1, none⟩ = some (.int .i64 ss[k].at_) := e11
    have c12 : wz.cell? ⟨b1, o1 + k * 4 + 2, none⟩ = some (.int .i64 ss[k].i) := e12
    have c13 : wz.cell? ⟨b1, o1 + k * 4 + 3, none⟩ = some (.int .i64 ss[k].j) := e13
    clear e10 e11 e12 e13
    obtain ⟨e20, e21, e22, e23⟩ := hr2 k hlt
    have c20 : wz.cell? ⟨b2, o2 + k * 4, none⟩ = some (.int .i64 ss[k].kind) := e20
    have c21 : wz.cell? ⟨b2, o2 + k * 4 + 1, none⟩ = some (.int .i64 ss[k].at_) := e21
    have c22 : wz.cell? ⟨b2, o2 + k * 4 + 2, none⟩ = some (.int .i64 ss[k].i) := e22
    have c23 : wz.cell? ⟨b2, o2 + k * 4 + 3, none⟩ = some (.int .i64 ss[k].j) := e23
    clear e20 e21 e22 e23
    clear hr1 hr2 hne
    generalize ss[k] = x at *
    have hnq := neq43 x.kind x.at_ x.i x.j
    go_wp2_with fail
    go_quiet (fail)
    all_goals
     go_wp2_with fail
     go_roundw
     case rel => exact ⟨k + 1, _, by go_num, by omega, by first | rfl | (simp only [World.drewN, Nat.add_assoc]; rfl), rfl⟩
     case measure => simp [intOf]; omega
  · have hke : k = ss.length := by omega
    subst hke
    have k1 : ¬ (ss.length : Int) < (ss.length : Int) := by omega
    go_wp2_with fail
    exact HN.out m _ _ _ _ _ _ _ _ _ _ _ _ _ _
end Go.Proofs.Ytkndmibmmoikbaa
namespace Go.Proofs.Ytkndmibmmoikbaa
open Go.RowKit
open Cox (Tl)
def cf5 (y : CycA) : List Value := [.slice y.pt y.y.tiles.length y.ct, .int .i64 y.y.i, .int .i64 y.y.j, .int .i64 y.y.rounds, .bool y.y.mir]
theorem strs_keep {w w' : World} {p : Option Addr} {l : List ByteArray} (h : StrsAt w p l) (hk : ∀ q o, p = some ⟨q, o, none⟩ → w'.heap[q]? = w.heap[q]?) : StrsAt w' p l := by
 intro hne
 obtain ⟨b, o, hb, hr⟩ := h hne
 refine ⟨b, o, hb, fun i hi => ?_⟩
 rw [World.cell?_of_block (w := w) (hk b o hb)]
 exact hr i hi
structure CpSt (w : World) (cys : List CycA) (k : Nat) (v : Value) (wr : World) : Prop where
 ex : ∃ ds : List CycA, ds.length = k ∧ ds.map (·.y) = (cys.map (·.y)).take k ∧ wr.ownsRow w.heap.size 48 5 v k (ds.flatMap cf5) ∧ ∀ y, y ∈ ds → StrsAt wr y.pt y.y.tiles ∧ ∀ q o, y.pt = some ⟨q, o, none⟩ → q < wr.heap.size ∧ v.ownBlock ≠ some q
 bel : Below w.heap.size w wr
theorem five_get {α : Type} (f : α → List Value) (hf : ∀ x, (f x).length = 5) (l : List α) (i j : Nat) (hj : j < 5) : (l.flatMap f)[i * 5 + j]? = (l[i]?).bind fun x => (f x)[j]? := by
 induction l generalizing i with
 | nil => simp
 | cons x l ih =>
  rw [List.flatMap_cons]
  cases i with
  | zero =>
   rw [List.getElem?_append_left (by rw [hf]; omega)]
   simp
  | succ i =>
   rw [List.getElem?_append_right (by rw [hf]; omega), hf]
   have : (i + 1) * 5 + j - 5 = i * 5 + j := by omega
   rw [this, ih]
   simp
theorem five_len {α : Type} (f : α → List Value) (hf : ∀ x, (f x).length = 5) (l : List α) : (l.flatMap f).length = l.length * 5 := by
 induction l with
 | nil => simp
 | cons x l ih => rw [List.flatMap_cons, List.length_append, hf, ih]; simp; omega
theorem cycs_own {w : World} {B : Nat} {v : Value} {ds : List CycA} (h : w.ownsRow B 48 5 v ds.length (ds.flatMap cf5)) (hs : ∀ y, y ∈ ds → StrsAt w y.pt y.y.tiles) : ∃ p c, v = .slice p ds.length c ∧ CycsAt w p ds := by
 obtain ⟨p, c, rfl⟩ := owns_form h
 refine ⟨p, c, rfl, fun hne => ?_⟩
 have h0 : 0 < ds.length := List.length_pos_iff.2 hne
 have hfl := five_len cf5 (fun _ => rfl) ds
 obtain ⟨g, cap, hv, _⟩ := owns_cell h (i := 0) (by rw [hfl]; omega)
 have hp : p = some ⟨g, 0, none⟩ := by simp at hv; exact hv.1
 have hc : ∀ i (hi : i < ds.length) j, j < 5 → w.cell? ⟨g, 0 + i * 5 + j, none⟩ = (cf5 ds[i])[j]? := fun i hi j hj => by
  obtain ⟨g', cap', hv', hc, _⟩ := owns_cell h (i := i * 5 + j) (by rw [hfl]; omega)
  have hp' : p = some ⟨g', 0, none⟩ := by simp at hv'; exact hv'.1
  rw [hp] at hp'
  cases hp'
  rw [Nat.zero_add, hc, five_get cf5 (fun _ => rfl) ds i j hj, List.getElem?_eq_getElem hi]
  rfl
 exact ⟨g, 0, hp, fun i hi => ⟨hc i hi 0 (by decide), hc i hi 1 (by decide), hc i hi 2 (by decide), hc i hi 3 (by decide), hc i hi 4 (by decide), hs _ (List.getElem_mem hi)⟩⟩
theorem CpSt.push {w : World} {cys : List CycA} {k : Nat} {v : Value} {wr : World} (h : CpSt w cys k v wr) (hk : k < cys.length) {w1 : World} (h1 : Below wr.heap.size wr w1) {q : Option Addr} {d : Nat} (hat : StrsAt w1 q cys[k].y.tiles) (hq : ∀ b o, q = some ⟨b, o, none⟩ → wr.heap.size ≤ b ∧ b < w1.heap.size)
 {g cap : Nat} {w2 : World} (hown : w2.ownsRow w.heap.size 48 5 (.slice (some ⟨g, 0, none⟩) (k + 1) cap) (k + 1) ((Classical.choose h.ex).flatMap cf5 ++ cf5 ⟨q, d, cys[k].y⟩)) (hgr : w1.grownBy w2 v.ownBlock) (hg : v.ownBlock = some g ∨ g = w1.heap.size) : CpSt w cys (k + 1) (.slice (some ⟨g, 0, none⟩) (k + 1) cap) w2 := by
 have hx := Classical.choose_spec h.ex
 generalize Classical.choose h.ex = ds at *
 obtain ⟨hl, hm, ho, hs⟩ := hx
 have hvb : ∀ b, v.ownBlock = some b → b < wr.heap.size ∧ w.heap.size ≤ b := fun b hb => owns_lt ho hb
 refine ⟨⟨ds ++ [⟨q, d, cys[k].y⟩], by simp [hl], ?_, ?_, ?_⟩, ?_⟩
 · rw [List.map_append, hm, List.take_succ_eq_append_getElem (by simpa using hk)]
   simp
 · rw [List.flatMap_append]
   simpa using hown
 · intro y hy
   have hkeep : ∀ b, b < w1.heap.size → v.ownBlock ≠ some b → w2.heap[b]? = w1.heap[b]? := fun b hb hne => hgr.block b hb (fun e => hne e.symm)
   have hgs := hgr.size
   have hgne : ∀ b, b < w1.heap.size → v.ownBlock ≠ some b → (Value.slice (some ⟨g, 0, none⟩) (k + 1) cap).ownBlock ≠ some b := by
    intro b hb hne e
    have hgb : g = b := by simpa [Value.ownBlock] using e
    subst hgb
    rcases hg with h | h
    · exact hne h
    · omega
   rcases List.mem_append.1 hy with hy | hy
   · obtain ⟨s1, s2⟩ := hs y hy
     refine ⟨strs_keep (s1.below h1) (fun b o hb => ?_), fun b o hb => ?_⟩
     · obtain ⟨b1, b2⟩ := s2 b o hb
       exact hkeep b (by have := h1.size; omega) b2
     · obtain ⟨b1, b2⟩ := s2 b o hb
       exact ⟨by have := h1.size; omega, hgne b (by have := h1.size; omega) b2⟩
   · simp at hy
     subst hy
     refine ⟨strs_keep hat (fun b o hb => ?_), fun b o hb => ?_⟩
     · obtain ⟨b1, b2⟩ := hq b o hb
       exact hkeep b b2 (fun e => by have := (hvb b e).1; omega)
     · obtain ⟨b1, b2⟩ := hq b o hb
       exact ⟨by omega, hgne b b2 (fun e => by have := (hvb b e).1; omega)⟩
 · exact (h.bel.trans (h1.mono h.bel.size)).grown hgr (by have := h.bel.size; have := h1.size; omega) (fun b hb => (hvb b hb).2)
end Go.Proofs.Ytkndmibmmoikbaa
namespace Go.Proofs.Ytkndmibmmoikbaa
open Go.RowKit
open Cox (Tl)
theorem copycycles_any (cys : List CycA) (pc : Option Addr) (cc : Nat) (w : World) (hcs : CycsAt w pc cys) (hl : cys.length ≤ 100) (hl2 : ∀ y, y ∈ cys → y.y.tiles.length ≤ 50) (hnil : ∀ y, y ∈ cys → NilOk y.pt y.y.tiles.length y.ct) :
 Calls Try.prog 10 #[.slice pc cys.length cc] w fun e w' => ∃ q d ds, e = .returned (.slice q cys.length d) ∧ ds.map (·.y) = cys.map (·.y) ∧ CycsAt w' q ds ∧ Below w.heap.size w w' := by
 obtain ⟨Q, hQ⟩ : ∃ Q : Ending → World → Prop, Q = fun e w' => ∃ q d ds, e = .returned (.slice q cys.length d) ∧ ds.map (·.y) = cys.map (·.y) ∧ CycsAt w' q ds ∧ Below w.heap.size w w' := ⟨_, rfl⟩
 rw [← hQ]
 have HQ := Lib.hid hQ
 clear hQ
 obtain ⟨i9, hi9, hz90, hz91, hz92⟩ := info_parts info9
 obtain ⟨i48, hi48, hz480, hz481, hz482⟩ := info_parts info48
 have HCS := Lib.hid hcs
 have HL2 := Lib.hid hl2
 have HNL := Lib.hid hnil
 have H9 := Hi (And.intro hi9 (And.intro hz90 (And.intro hz91 hz92)))
 clear hcs hl2 hnil hi9 hz90 hz91 hz92
 go_enter Try.func10, Try.ntmps10
 go_wp2_with fail
 go_loopw [3, 9] (fun v t wr => ∃ (k : Nat), t = .int .i64 (k : Nat) ∧ k ≤ cys.length ∧ Hid (CpSt w cys k v wr)) (fun _ t _ => cys.length - (intOf t).toNat)
 case atStart => exact ⟨0, rfl, by omega, Lib.hid ⟨⟨[], rfl, by simp, ⟨by simp, .inl ⟨rfl, rfl⟩⟩, fun y hy => by cases hy⟩, Below.refl _ _⟩⟩
 case round =>
  obtain ⟨k, rfl, hk, HK⟩ := hrel
  by_cases hlt : k < cys.length
  · obtain ⟨b0, o0, hp, hr⟩ := (HCS.out.below HK.out.bel) (by intro h; rw [h] at hlt; simp at hlt)
    obtain ⟨q0, q1, q2, q3, q4, q5⟩ := hr k hlt
    subst hp
    have k1 : (k : Int) < (cys.length : Int) := by omega
    have k2 : (0 : Int) ≤ (k : Int) := by omega
    have HLT := Lib.hid hlt
    have h50 := HL2.out _ (List.getElem_mem hlt)
    have hnk := HNL.out _ (List.getElem_mem hlt)
    have hsome : cys[k]? = some cys[k] := List.getElem?_eq_getElem hlt
    clear hr
    generalize cys[k] = dk at *
    have HDK := Lib.hid hsome
    clear hsome hlt
    obtain ⟨pt, ct, yk⟩ := dk
    simp only at q0 q1 q2 q3 q4 q5 h50 hnk
    have hb1 := (Below.refl wr.heap.size wr).alloc (Nat.le_refl _) (.cells #[.slice pt yk.tiles.length ct, .int .i64 yk.i, .int .i64 yk.j, .int .i64 yk.rounds, .bool yk.mir] 48)
    have hc1 := str_new wr #[.slice pt yk.tiles.length ct, .int .i64 yk.i, .int .i64 yk.j, .int .i64 yk.rounds, .bool yk.mir] 48 _ rfl
    have Q5 := Lib.hid q5
    have HNK := Lib.hid hnk
    clear q5 hnk
    go_upto_region 6 with fail
    have HB1 := Hi (And.intro hb1 hc1)
    have hs1 : (wr.alloc (.cells #[.slice pt yk.tiles.length ct, .int .i64 yk.i, .int .i64 yk.j, .int .i64 yk.rounds, .bool yk.mir] 48)).heap.size = wr.heap.size + 1 := by simp
    generalize wr.alloc (.cells #[.slice pt yk.tiles.length ct, .int .i64 yk.i, .int .i64 yk.j, .int .i64 yk.rounds, .bool yk.mir] 48) = w1 at *
    have HS1 := Lib.hid hs1
    clear hb1 hc1 hs1 q0 q1 q2 q3 q4
    have c0 : w1.cell? ⟨wr.heap.size, 0, none⟩ = some (.slice pt yk.tiles.length ct) := by rw [cell_of HB1.out.2]; rfl
    obtain ⟨v', w2, hr, ho, hb⟩ := run_copy 24 9 i9 _ 1 16 Try.underlying24 H9.out.1 H9.out.2.1 H9.out.2.2.1 H9.out.2.2.2 rfl (by decide) 24 pt yk.tiles.length ct (yk.tiles.map Value.string) HNK.out w1 (by simp) (strs_flat (Q5.out.below HB1.out.1)) (by intro u hu; obtain ⟨x, hx, rfl⟩ := List.mem_map.1 hu; rfl) (by unfold maxLen; omega) (by omega)
    have hnew : ∀ b, v'.ownBlock = some b → w1.heap.size ≤ b ∧ b < w2.heap.size := fun b hb => ⟨(owns_lt ho hb).2, (owns_lt ho hb).1⟩
    obtain ⟨q, d, rfl, hat⟩ := strs_own ho
    have HW2 := Hi (And.intro hat (And.intro hb (fun b o (h : q = some ⟨b, o, none⟩) => hnew b (by rw [h]; rfl))))
    have HR := Lib.hid hr
    clear ho hat hb hr hnew
    go_upto_region 7 with (at_builtin; refine wpList_append_eq rfl (.tmp 13) (.tmp 15) 24 rfl rfl rfl HR.out ?_)
    clear HR c0
    have hbox := (HW2.out.2.1.block _ (Array.getElem?_eq_some_iff.1 HB1.out.2).1).trans HB1.out.2
    have c0 : w2.cell? ⟨wr.heap.size, 0, none⟩ = some (.slice pt yk.tiles.length ct) := by rw [cell_of hbox]; rfl
    have f0 := free_of hbox 0
    have hbox3 : (w2.setCell ⟨wr.heap.size, 0, none⟩ (.slice q yk.tiles.length d)).heap[wr.heap.size]? = some (.cells #[.slice q yk.tiles.length d, .int .i64 yk.i, .int .i64 yk.j, .int .i64 yk.rounds, .bool yk.mir] 48 (0, 0)) := by
     rw [heap_setCell', if_pos rfl, hbox]; rfl
    go_upto_region 8 with fail
    have HB3 : Hid (Below wr.heap.size wr (w2.setCell ⟨wr.heap.size, 0, none⟩ (.slice q yk.tiles.length d))) := Hi ((HB1.out.1.trans (HW2.out.2.1.mono HB1.out.1.size)).setCell (p := ⟨wr.heap.size, 0, none⟩) (Nat.le_refl _) _)
    have HAT3 : Hid (StrsAt (w2.setCell ⟨wr.heap.size, 0, none⟩ (.slice q yk.tiles.length d)) q yk.tiles) := Hi (strs_keep HW2.out.1 (fun b o hb => by
     have := (HW2.out.2.2 b o hb).1
     have := HS1.out
     rw [heap_setCell', if_neg (by omega)]))
    have HQ3 : Hid (∀ b o, q = some ⟨b, o, none⟩ → wr.heap.size ≤ b ∧ b < (w2.setCell ⟨wr.heap.size, 0, none⟩ (.slice q yk.tiles.length d)).heap.size) := Hi (fun b o hb => by
     have := HW2.out.2.2 b o hb
     have := HS1.out
     exact ⟨by omega, by simp [World.setCell]; omega⟩)
    have HBX := Lib.hid hbox3
    clear hbox c0 f0 hbox3 HW2
    generalize w2.setCell ⟨wr.heap.size, 0, none⟩ (.slice q yk.tiles.length d) = w3 at *
    have d0 : w3.cell? ⟨wr.heap.size, 0, none⟩ = some (.slice q yk.tiles.length d) := by rw [cell_of HBX.out]; rfl
    have d1 : w3.cell? ⟨wr.heap.size, 1, none⟩ = some (.int .i64 yk.i) := by rw [cell_of HBX.out]; rfl
    have d2 : w3.cell? ⟨wr.heap.size, 2, none⟩ = some (.int .i64 yk.j) := by rw [cell_of HBX.out]; rfl
    have d3 : w3.cell? ⟨wr.heap.size, 3, none⟩ = some (.int .i64 yk.rounds) := by rw [cell_of HBX.out]; rfl
    have d4 : w3.cell? ⟨wr.heap.size, 4, none⟩ = some (.bool yk.mir) := by rw [cell_of HBX.out]; rfl
    have hx := Classical.choose_spec HK.out.ex
    have HCH : Hid (∀ (w4 : World) (g cap : Nat), Below w3.heap.size w3 w4 → ∀ (w5 : World), w5.ownsRow w.heap.size 48 5 (.slice (some ⟨g, 0, none⟩) (k + 1) cap) (k + 1) ((Classical.choose HK.out.ex).flatMap cf5 ++ [.slice q yk.tiles.length d, .int .i64 yk.i, .int .i64 yk.j, .int .i64 yk.rounds, .bool yk.mir]) → w4.grownBy w5 u3.ownBlock → (u3.ownBlock = some g ∨ g = w4.heap.size) → CpSt w cys (k + 1) (.slice (some ⟨g, 0, none⟩) (k + 1) cap) w5) := Hi (fun w4 g cap h4 w5 hown hgr hg => by
     have hlt := HLT.out
     have hck : cys[k] = ⟨pt, ct, yk⟩ := by have := HDK.out; rw [List.getElem?_eq_getElem hlt] at this; simpa using this
     refine HK.out.push hlt (w1 := w4) (HB3.out.trans (h4.mono HB3.out.size)) (q := q) (d := d) ?_ ?_ ?_ hgr hg
     · rw [hck]; exact HAT3.out.below h4
     · intro b o hb
       have := HQ3.out b o hb
       exact ⟨this.1, by have := h4.size; omega⟩
     · rw [hck]; exact hown)
    have HOW := Lib.hid hx.2.2.1
    clear hx
    obtain ⟨ds, hds⟩ : ∃ ds, Classical.choose HK.out.ex = ds := ⟨_, rfl⟩
    rw [hds] at HCH HOW
    have HOW4 : Hid ((w3.alloc (.cells #[.slice q yk.tiles.length d, .int .i64 yk.i, .int .i64 yk.j, .int .i64 yk.rounds, .bool yk.mir] 48)).ownsRow w.heap.size 48 5 u3 k (ds.flatMap cf5)) := Hi (owns_keep HOW.out (fun b hb => by
     have := (owns_lt HOW.out hb).1
     exact (Below.heap_alloc _ _ _ (by have := HB3.out.size; omega)).trans (HB3.out.block b this)))
    have HHS : Hid (w.heap.size ≤ (w3.alloc (.cells #[.slice q yk.tiles.length d, .int .i64 yk.i, .int .i64 yk.j, .int .i64 yk.rounds, .bool yk.mir] 48)).heap.size) := Hi (by have := HK.out.bel.size; have := HB3.out.size; simp; omega)
    have HNB := Hi (World.news_of_block (str_new w3 #[.slice q yk.tiles.length d, .int .i64 yk.i, .int .i64 yk.j, .int .i64 yk.rounds, .bool yk.mir] 48 _ rfl))
    have HOC : Hid (∀ u ∈ [Value.slice q yk.tiles.length d, .int .i64 yk.i, .int .i64 yk.j, .int .i64 yk.rounds, .bool yk.mir], u.oneCell' = true) := Hi (by intro u hu; simp at hu; rcases hu with rfl | rfl | rfl | rfl | rfl <;> rfl)
    have HB4 := Hi ((Below.refl w3.heap.size w3).alloc (Nat.le_refl _) (.cells #[.slice q yk.tiles.length d, .int .i64 yk.i, .int .i64 yk.j, .int .i64 yk.rounds, .bool yk.mir] 48))
    have m1 : k + 1 ≤ maxLen := by unfold maxLen; omega
    have m2 : (k + 1) * 56 ≤ 140737488355328 := by omega
    go_wp2_with (at_builtin; refine wpList_append_lies _ rfl (.tmp 19) (.tmp 21) 26 rfl w.heap.size 48 i48 _ 5 56 Try.underlying26 hi48 hz480 hz481 hz482 rfl (by decide) u3 k (ds.flatMap cf5) rfl HOW4.out ⟨w3.heap.size, 0, none⟩ 1 1 [.slice q yk.tiles.length d, .int .i64 yk.i, .int .i64 yk.j, .int .i64 yk.rounds, .bool yk.mir] rfl rfl HNB.out HOC.out (by decide) m1 m2 HHS.out _ rfl ?_; intro g9 cap9 w9 hown9 hgr9 hat9 hlt9; have HF := Hi (HCH.out _ g9 cap9 HB4.out w9 hown9 hgr9 hat9); clear hown9 hgr9 hat9 hlt9)
    go_roundw
    case rel => exact ⟨k + 1, by go_num, by have := HLT.out; omega, HF⟩
    case measure =>
     have := HLT.out
     simp [intOf]; omega
  · have hke : k = cys.length := by omega
    subst hke
    have k1 : ¬ (cys.length : Int) < (cys.length : Int) := by omega
    obtain ⟨ds, h1, h2, h3, h4⟩ := HK.out.ex
    rw [← h1] at h3
    obtain ⟨p, c, hv, hat⟩ := cycs_own h3 (fun y hy => (h4 y hy).1)
    rw [List.take_of_length_le (by simp)] at h2
    rw [h1] at hv
    have HD := Hi (And.intro h2 hat)
    subst hv
    clear h1 h2 h3 h4 hat
    go_wp2_with fail
    rw [HQ.out]
    exact ⟨p, c, ds, rfl, HD.out.1, HD.out.2, HK.out.bel⟩
end Go.Proofs.Ytkndmibmmoikbaa
namespace Go.Proofs.Ytkndmibmmoikbaa
open Go.RowKit
open Cox (Tl)
noncomputable def sameR6 : Code := (Try.f13.body.bind (onlyR 6)).getD .skip
theorem same_r6 {Q : Exit → Act → World → Prop} {b1 o1 b2 o2 n c d k : Nat} {p1 p2 : Option Addr} {e1 e2 : Nat} {y : CycD} {ds : List Deferred} {wz : World} (hk : k < n)
 (h10 : wz.cell? ⟨b1, o1 + k * 5, none⟩ = some (.slice p1 y.tiles.length e1)) (h11 : wz.cell? ⟨b1, o1 + k * 5 + 1, none⟩ = some (.int .i64 y.i)) (h12 : wz.cell? ⟨b1, o1 + k * 5 + 2, none⟩ = some (.int .i64 y.j)) (h13 : wz.cell? ⟨b1, o1 + k * 5 + 3, none⟩ = some (.int .i64 y.rounds)) (h14 : wz.cell? ⟨b1, o1 + k * 5 + 4, none⟩ = some (.bool y.mir))
 (h20 : wz.cell? ⟨b2, o2 + k * 5, none⟩ = some (.slice p2 y.tiles.length e2)) (h21 : wz.cell? ⟨b2, o2 + k * 5 + 1, none⟩ = some (.int .i64 y.i)) (h22 : wz.cell? ⟨b2, o2 + k * 5 + 2, none⟩ = some (.int .i64 y.j)) (h23 : wz.cell? ⟨b2, o2 + k * 5 + 3, none⟩ = some (.int .i64 y.rounds)) (h24 : wz.cell? ⟨b2, o2 + k * 5 + 4, none⟩ = some (.bool y.mir))
 {u2 u3 u4 u6 u7 u8 u9 u10 u11 u12 u13 u14 u15 u16 u17 u18 u19 u20 u21 u22 u23 u24 u25 u26 u27 u28 u29 u30 u31 u32 u33 u34 u35 u36 u37 u38 u39 u40 u41 u42 u43 u44 u45 u46 u47 u48 u49 u50 u51 u52 u53 u54 u55 u56 u57 u58 u59 u60 u61 u62 u63 u64 u65 u66 u67 u68 u69 u70 u71 u72 u73 u74 u75 u76 u77 u78 u79 u80 : Value}
 (hN : ∀ bx bz w6 (n19 n20 n21 n22 n23 n24 n25 n26 : Value), w6.heap[bx]? = some (.cells #[.slice p1 y.tiles.length e1, .int .i64 y.i, .int .i64 y.j, .int .i64 y.rounds, .bool y.mir] 48 (0, 0)) → w6.heap[bz]? = some (.cells #[.slice p2 y.tiles.length e2, .int .i64 y.i, .int .i64 y.j, .int .i64 y.rounds, .bool y.mir] 48 (0, 0)) → Below wz.heap.size wz w6 → Q .normal ⟨#[.slice (some ⟨b1, o1, none⟩) n c, .slice (some ⟨b2, o2, none⟩) n d, u2, u3, u4, .int .i64 (k : Nat), .pointer (some ⟨bx, 0, none⟩), .pointer (some ⟨bz, 0, none⟩), u8, u9, u10, u11, u12, u13, u14, u15, u16, u17, u18, n19, n20, n21, n22, n23, n24, n25, n26, u27, u28, u29, u30, u31, u32, u33, u34, u35, u36, u37, u38, u39, u40, u41, u42, u43, u44, u45, u46, u47, u48, u49, u50, u51, u52, u53, u54, u55, u56, u57, u58, u59, u60, u61, u62, u63, u64, u65, u66, u67, u68, u69, u70, u71, u72, u73, u74, u75, u76, u77, u78, u79, u80], ds⟩ w6) :
 Code.wp Try.prog sameR6 Q ⟨#[.slice (some ⟨b1, o1, none⟩) n c, .slice (some ⟨b2, o2, none⟩) n d, u2, u3, u4, .int .i64 (k : Nat), u6, u7, u8, u9, u10, u11, u12, u13, u14, u15, u16, u17, u18, u19, u20, u21, u22, u23, u24, u25, u26, u27, u28, u29, u30, u31, u32, u33, u34, u35, u36, u37, u38, u39, u40, u41, u42, u43, u44, u45, u46, u47, u48, u49, u50, u51, u52, u53, u54, u55, u56, u57, u58, u59, u60, u61, u62, u63, u64, u65, u66, u67, u68, u69, u70, u71, u72, u73, u74, u75, u76, u77, u78, u79, u80], ds⟩ wz := by
 have HN := Lib.hid hN
 have k1 : (k : Int) < (n : Int) := by omega
 have k2 : (0 : Int) ≤ (k : Int) := by omega
 clear hN
 have l1 : b1 < wz.heap.size := World.block_lt_of_cell? wz _ h10
 have l2 : b2 < wz.heap.size := World.block_lt_of_cell? wz _ h20
 have l3 : b1 ≠ wz.heap.size := by omega
 have l4 : b2 ≠ wz.heap.size := by omega
 have hb1 := (Below.refl wz.drew.heap.size wz.drew).alloc (Nat.le_refl _) (.cells #[.slice p1 y.tiles.length e1, .int .i64 y.i, .int .i64 y.j, .int .i64 y.rounds, .bool y.mir] 48)
 conv => arg 2; whnf
 dsimp only
 go_region
 · refine HN.out wz.heap.size (wz.heap.size + 1) _ _ _ _ _ _ _ _ _ ?_ ?_ ?_
   · exact (Below.heap_alloc _ _ _ (by simp)).trans (str_new _ _ _ _ rfl)
   · exact str_new _ _ _ _ (by simp)
   · exact (((Below.refl wz.heap.size wz).alloc (Nat.le_refl _) _).alloc (by simp) _).drew
 · refine HN.out (wz.heap.size + 1) wz.heap.size _ _ _ _ _ _ _ _ _ ?_ ?_ ?_
   · exact str_new _ _ _ _ (by simp)
   · exact (Below.heap_alloc _ _ _ (by simp)).trans (str_new _ _ _ _ rfl)
   · exact (((Below.refl wz.heap.size wz).alloc (Nat.le_refl _) _).alloc (by simp) _).drew
end Go.Proofs.Ytkndmibmmoikbaa
namespace Go.Proofs.Ytkndmibmmoikbaa
open Go.RowKit
open Cox (Tl)
theorem samecycles_any (cys es : List CycA) (pc q : Option Addr) (cc d : Nat) (w : World) (h1 : CycsAt w pc cys) (h2 : CycsAt w q es) (hy : es.map (·.y) = cys.map (·.y)) (hl : cys.length ≤ 100) (hl2 : ∀ y, y ∈ cys → y.y.tiles.length ≤ 50) :
 Calls Try.prog 13 #[.slice pc cys.length cc, .slice q cys.length d] w fun e w' => e = .returned (.bool true) ∧ Below w.heap.size w w' := by
 obtain ⟨Q, hQ⟩ : ∃ Q : Ending → World → Prop, Q = fun e w' => e = .returned (.bool true) ∧ Below w.heap.size w w' := ⟨_, rfl⟩
 rw [← hQ]
 have HQ := Lib.hid hQ
 have H1 := Lib.hid h1
 have H2 := Lib.hid h2
 have HY := Lib.hid hy
 have HL2 := Lib.hid hl2
 clear hQ h1 h2 hy hl2
 go_enter Try.func13, Try.ntmps13
 go_wp2_with fail
 go_loopw [4, 16] (fun r t wr => ∃ (k : Nat), t = .int .i64 (k : Nat) ∧ k ≤ cys.length ∧ r = .bool false ∧ Hid (Below w.heap.size w wr)) (fun _ t _ => cys.length - (intOf t).toNat)
 case atStart => exact ⟨0, rfl, by omega, rfl, Hi (Below.refl _ _)⟩
 case round =>
  obtain ⟨k, rfl, hk, rfl, HK⟩ := hrel
  by_cases hlt : k < cys.length
  · have hel : es.length = cys.length := by have := congrArg List.length HY.out; simpa using this
    obtain ⟨b1, o1, hp1, hr1⟩ := (H1.out.below HK.out) (by intro h; rw [h] at hlt; simp at hlt)
    obtain ⟨b2, o2, hp2, hr2⟩ := (H2.out.below HK.out) (by intro h; rw [h] at hel; simp at hel; omega)
    have hlt2 : k < es.length := by omega
    have hyk : es[k].y = cys[k].y := by
     have h := congrArg (fun l => l[k]?) HY.out
     simp only [List.getElem?_map, List.getElem?_eq_getElem hlt, List.getElem?_eq_getElem hlt2, Option.map_some, Option.some.injEq] at h
     exact h
    obtain ⟨p0, p1, p2, p3, p4, p5⟩ := hr1 k hlt
    obtain ⟨q0, q1, q2, q3, q4, q5⟩ := hr2 k hlt2
    rw [hyk] at q0 q1 q2 q3 q4 q5
    have h50 := HL2.out _ (List.getElem_mem hlt)
    subst hp1 hp2
    have k1 : (k : Int) < (cys.length : Int) := by omega
    have k2 : (0 : Int) ≤ (k : Int) := by omega
    have HLT := Lib.hid hlt
    clear hr1 hr2 hyk hel
    generalize cys[k] = ck at *
    generalize es[k] = ek at *
    clear hlt2 hlt
    obtain ⟨pt, ct, y⟩ := ck
    obtain ⟨pt2, ct2, y2⟩ := ek
    simp only at p0 p1 p2 p3 p4 p5 q0 q1 q2 q3 q4 q5 h50
    have HS := Hi (And.intro p5 q5)
    clear p5 q5
    go_upto_region 6 with fail
    refine same_r6 (k := k) (n := cys.length) (y := y) HLT.out p0 p1 p2 p3 p4 q0 q1 q2 q3 q4 (fun bx bz w6 n19 n20 n21 n22 n23 n24 n25 n26 hx hz hb6 => ?_)
    have HX := Hi (And.intro hx (And.intro hz hb6))
    clear p0 p1 p2 p3 p4 q0 q1 q2 q3 q4 hx hz hb6
    have x0 : w6.cell? ⟨bx, 0, none⟩ = some (.slice pt y.tiles.length ct) := by rw [cell_of HX.out.1]; rfl
    have x1 : w6.cell? ⟨bx, 1, none⟩ = some (.int .i64 y.i) := by rw [cell_of HX.out.1]; rfl
    have x2 : w6.cell? ⟨bx, 2, none⟩ = some (.int .i64 y.j) := by rw [cell_of HX.out.1]; rfl
    have x3 : w6.cell? ⟨bx, 3, none⟩ = some (.int .i64 y.rounds) := by rw [cell_of HX.out.1]; rfl
    have x4 : w6.cell? ⟨bx, 4, none⟩ = some (.bool y.mir) := by rw [cell_of HX.out.1]; rfl
    have z0 : w6.cell? ⟨bz, 0, none⟩ = some (.slice pt2 y.tiles.length ct2) := by rw [cell_of HX.out.2.1]; rfl
    have z1 : w6.cell? ⟨bz, 1, none⟩ = some (.int .i64 y.i) := by rw [cell_of HX.out.2.1]; rfl
    have z2 : w6.cell? ⟨bz, 2, none⟩ = some (.int .i64 y.j) := by rw [cell_of HX.out.2.1]; rfl
    have z3 : w6.cell? ⟨bz, 3, none⟩ = some (.int .i64 y.rounds) := by rw [cell_of HX.out.2.1]; rfl
    have z4 : w6.cell? ⟨bz, 4, none⟩ = some (.bool y.mir) := by rw [cell_of HX.out.2.1]; rfl
    have HS6 := Hi (And.intro (HS.out.1.below HX.out.2.2) (HS.out.2.below HX.out.2.2))
    have HB6 := Hi (HK.out.trans (HX.out.2.2.mono HK.out.size))
    clear HS
    generalize y.i = yi at *
    generalize y.j = yj at *
    generalize y.rounds = yr at *
    generalize y.mir = ym at *
    generalize y.tiles = ts at *
    go_wp2_with fail
    clear x1 x2 x3 x4 z1 z2 z3 z4
    go_loopw [4, 65] (fun r t wq => ∃ (i m : Nat), t = .int .i64 (i : Nat) ∧ i ≤ ts.length ∧ r = .bool false ∧ wq = w6.drewN m) (fun _ t _ => ts.length - (intOf t).toNat)
    case atStart => exact ⟨0, 0, rfl, by omega, rfl, rfl⟩
    case round =>
     obtain ⟨i, m, rfl, hi, rfl, rfl⟩ := hrel
     by_cases hit : i < ts.length
     · have hne : ts ≠ [] := by intro h; rw [h] at hit; simp at hit
       obtain ⟨c1, f1, rfl, hr1⟩ := HS6.out.1 hne
       obtain ⟨c2, f2, rfl, hr2⟩ := HS6.out.2 hne
       have i1 : (i : Int) < (ts.length : Int) := by omega
       have i2 : (0 : Int) ≤ (i : Int) := by omega
       have s1 := hr1 i hit
       have s2 := hr2 i hit
       clear hr1 hr2 hne
       generalize ts[i] = s at *
       go_wp2_with fail
       go_quiet (fail)
       all_goals
        go_wp2_with fail
        go_roundw
        case rel => exact ⟨i + 1, _, by go_num, by omega, rfl, by first | rfl | (simp only [World.drewN, Nat.add_assoc]; rfl)⟩
        case measure => simp [intOf]; omega
     · have hie : i = ts.length := by omega
       subst hie
       have i1 : ¬ (ts.length : Int) < (ts.length : Int) := by omega
       go_wp2_with fail
       go_roundw
       case rel => exact ⟨k + 1, by go_num, by have := HLT.out; omega, rfl, Hi (HB6.out.trans (drewN_below _ _ _))⟩
       case measure =>
        have := HLT.out
        simp [intOf]; omega
  · have hke : k = cys.length := by omega
    subst hke
    have k1 : ¬ (cys.length : Int) < (cys.length : Int) := by omega
    go_wp2_with fail
    rw [HQ.out]
    exact ⟨rfl, HK.out⟩
end Go.Proofs.Ytkndmibmmoikbaa
namespace Go.Proofs.Ytkndmibmmoikbaa
open Go.RowKit
open Cox (Tl)
theorem chk_bd {a b c : Int} (h : chk a b c = 0) : (0 ≤ a ∧ a ≤ 100) ∧ (0 ≤ b ∧ b ≤ 100) ∧ (0 ≤ c ∧ c ≤ 100) := by
 obtain ⟨a', b', c', rfl, rfl, rfl, _, _, _, h4, h5, h6⟩ := chk_nat h
 omega
theorem stays_law (a b c : Int) (ts : List ByteArray) (ps : List PairD) (cys : List CycA) (rs : List Int) (ss : List StepD) (pt pp pc pr px : Option Addr) (ct cp cc cr cx : Nat) (w : World) (hts : StrsAt w pt ts) (hps : PairsAt w pp ps) (hcs : CycsAt w pc cys) (hrs : IntsAt w pr rs) (hss : StepsAt w px ss)
 (hlt : ts.length ≤ 2000000) (hlp : ps.length ≤ 2000000) (hlc : cys.length ≤ maxLen) (hlr : rs.length ≤ maxLen) (hls : ss.length ≤ maxLen) (hs : ∀ s, s ∈ ts → s.size ≤ maxLen) (hs2 : ∀ p, p ∈ ps → p.1.tile.size ≤ maxLen ∧ p.2.tile.size ≤ maxLen) (hs3 : ∀ y, y ∈ cys → y.y.tiles.length ≤ maxLen ∧ ∀ s, s ∈ y.y.tiles → s.size ≤ maxLen)
 (n1 : NilOk pt ts.length ct) (n2 : NilOk pp ps.length cp) (n3 : ∀ y, y ∈ cys → NilOk y.pt y.y.tiles.length y.ct) (n4 : NilOk pr rs.length cr) (n5 : NilOk px ss.length cx) :
 Calls Try.prog 4 #[oval a b c, .slice pt ts.length ct, .slice pp ps.length cp, .slice pc cys.length cc, .slice pr rs.length cr, .slice px ss.length cx] w fun e w' => e = .returned (.bool true) ∧ Below w.heap.size w w' := by
 obtain ⟨Q, hQ⟩ : ∃ Q : Ending → World → Prop, Q = fun e w' => e = .returned (.bool true) ∧ Below w.heap.size w w' := ⟨_, rfl⟩
 rw [← hQ]
 have HR : Hid (∀ w', Below w.heap.size w w' → Q (.returned (.bool true)) w') := Hi (fun w' h => by rw [hQ]; exact ⟨rfl, h⟩)
 obtain ⟨W, hord, _⟩ := world_of a b c
 have hb0 := (Below.refl w.heap.size w).alloc (Nat.le_refl _) (.cells #[.int .i64 a, .int .i64 b, .int .i64 c] 23)
 have hc0 := str_new w #[.int .i64 a, .int .i64 b, .int .i64 c] 23 _ rfl
 have htm : ts.length ≤ maxLen := by unfold maxLen; omega
 have hpm : ps.length ≤ maxLen := by unfold maxLen; omega
 have SA := Lib.hid sane_any
 have SM := Hi (fun wx (hb : Below w.heap.size w wx) => small_any ts ps pt pp ct cp wx (hts.below hb) (hps.below hb) htm hpm hs hs2)
 have FW := Hi (fun wx (hb : Below w.heap.size w wx) => few_any cys pc cc wx (hcs.below hb) hlc hs3)
 have FA := Hi (fun wx (hb : Below w.heap.size w wx) => fits_any W a b c hord ts ps cys pt pp pc ct cp cc wx (hts.below hb) (hps.below hb) (hcs.below hb) htm hpm hlc hs hs2 hs3)
 have SP := Hi (fun wx (hb : Below w.heap.size w wx) => steps_any a b c (fun h => chk_bd h) ⟨#[]⟩ ⟨#[]⟩ ss px cx wx (by decide) (by decide) (hss.below hb) hls)
 have OV := Hi (fun wx (hb : Below w.heap.size w wx) => over_any W a b c hord ts ps rs pt pp pr ct cp cr wx (hts.below hb) (hps.below hb) (hrs.below hb) htm hpm hlr hs hs2)
 have CC := Hi (fun (h1 : cys.length ≤ 100) (h2 : ∀ y, y ∈ cys → y.y.tiles.length ≤ 50) wx (hb : Below w.heap.size w wx) => copycycles_any cys pc cc wx (hcs.below hb) h1 h2 n3)
 have SC := Hi (fun (h1 : cys.length ≤ 100) (h2 : ∀ y, y ∈ cys → y.y.tiles.length ≤ 50) es q d wx (hb : Below w.heap.size w wx) (hq : CycsAt wx q es) (hy : es.map (·.y) = cys.map (·.y)) => samecycles_any cys es pc q cc d wx (hcs.below hb) hq hy h1 h2)
 have HT := Hi (And.intro hts (And.intro hps (And.intro hcs (And.intro hrs hss))))
 have HN := Hi (And.intro n1 (And.intro n2 (And.intro n4 n5)))
 have HL := Hi (And.intro hlt hlp)
 generalize fitsErr W a b c ts ps (cys.map (·.y)) = er at *
 generalize overR W a b c ts ps rs = ov at *
 generalize stepsErr a b c ⟨#[]⟩ ⟨#[]⟩ ss = sr at *
 unfold oval at *
 unfold maxLen at hlr hls hlc
 clear hord hts hps hcs hrs hss hs hs2 hs3 hQ n1 n2 n3 n4 n5 htm hpm hlt hlp
 go_enter Try.func4, Try.ntmps4
 go_upto_region 1 with fail
 generalize w.alloc (.cells #[.int .i64 a, .int .i64 b, .int .i64 c] 23) = w0 at *
 have HB0 := Hi (And.intro hb0 hc0)
 clear hb0 hc0
 by_cases hr30 : rs.length ≤ 30
 case neg =>
  have e1 : decide ((30 : Int) < (rs.length : Int)) = true := decide_eq_true (by omega)
  have e2 : (30 : Int) < (rs.length : Int) := by omega
  clear hr30
  go_wp2_with (first
   | (go_at_call 5; refine (SM.out _ HB0.out.1).mono ?_; rintro r w1 ⟨b1, rfl, hb1⟩; have HB1 := Hi (HB0.out.1.trans (hb1.mono HB0.out.1.size)); clear hb1; cases b1)
   | (go_at_call 6; refine (FW.out _ HB1.out).mono ?_; rintro r w2 ⟨b2, rfl, hb2, _⟩; have HB2 := Hi (HB1.out.trans (hb2.mono HB1.out.size)); clear hb2; cases b2)
   | (go_at_call 7; refine (SA.out _).mono ?_; rintro r w3 ⟨rfl, hb3⟩; have HB3 := Lib.hid hb3; clear hb3))
  all_goals first
   | exact HR.out _ (HB1.out.trans (HB3.out.mono HB1.out.size))
   | exact HR.out _ (HB2.out.trans (HB3.out.mono HB2.out.size))
 have e1 : decide ((30 : Int) < (rs.length : Int)) = false := decide_eq_false (by omega)
 have e2 : ¬ (30 : Int) < (rs.length : Int) := by omega
 by_cases hs60 : ss.length ≤ 60
 case neg =>
  have e3 : decide ((60 : Int) < (ss.length : Int)) = true := decide_eq_true (by omega)
  have e4 : (60 : Int) < (ss.length : Int) := by omega
  clear hs60
  go_wp2_with (first
   | (go_at_call 5; refine (SM.out _ HB0.out.1).mono ?_; rintro r w1 ⟨b1, rfl, hb1⟩; have HB1 := Hi (HB0.out.1.trans (hb1.mono HB0.out.1.size)); clear hb1; cases b1)
   | (go_at_call 6; refine (FW.out _ HB1.out).mono ?_; rintro r w2 ⟨b2, rfl, hb2, _⟩; have HB2 := Hi (HB1.out.trans (hb2.mono HB1.out.size)); clear hb2; cases b2)
   | (go_at_call 7; refine (SA.out _).mono ?_; rintro r w3 ⟨rfl, hb3⟩; have HB3 := Lib.hid hb3; clear hb3))
  all_goals first
   | exact HR.out _ (HB1.out.trans (HB3.out.mono HB1.out.size))
   | exact HR.out _ (HB2.out.trans (HB3.out.mono HB2.out.size))
 have e3 : decide ((60 : Int) < (ss.length : Int)) = false := decide_eq_false (by omega)
 have e4 : ¬ (60 : Int) < (ss.length : Int) := by omega
 have HLS := Hi (And.intro hr30 hs60)
 clear hr30 hs60
 go_wp2_with (go_at_call 5; refine (SM.out _ HB0.out.1).mono ?_; rintro r w1 ⟨b1, rfl, hb1⟩; have HB1 := Hi (HB0.out.1.trans (hb1.mono HB0.out.1.size)); have HK1 := Lib.hid hb1; clear hb1; cases b1)
 · go_wp2_with (go_at_call 7; refine (SA.out _).mono ?_; rintro r w2 ⟨rfl, hb2⟩; have HB2 := Hi (HB1.out.trans (hb2.mono HB1.out.size)); clear hb2)
   exact HR.out _ HB2.out
 · go_upto_region 7 with (go_at_call 6; refine (FW.out _ HB1.out).mono ?_; rintro r w2 ⟨b2, rfl, hb2, hf⟩; have HB2 := Hi (HB1.out.trans (hb2.mono HB1.out.size)); have HK2 := Hi (HK1.out.trans (hb2.mono HK1.out.size)); have HF := Lib.hid hf; clear hb2 hf; cases b2)
   · go_wp2_with (go_at_call 7; refine (SA.out _).mono ?_; rintro r w3 ⟨rfl, hb3⟩; have HB3 := Hi (HB2.out.trans (hb3.mono HB2.out.size)); clear hb3)
     exact HR.out _ HB3.out
   · have HF2 := Hi (HF.out (by first | rfl | trivial))
     clear HF HB1 HK1 e1 e2 e3 e4
     refine stays_r7 (ts := ts) (HT.out.1.below HB2.out) HN.out.1 HL.out.1 (fun q1 d1 w3 n42 n43 n44 hq1 hb3 => ?_)
     have HQ1 := Lib.hid hq1
     have HB3 := Hi (HB2.out.trans (hb3.mono HB2.out.size))
     have HK3 := Hi (HK2.out.trans (hb3.mono HK2.out.size))
     clear hq1 hb3 HB2 HK2
     go_upto_region 8 with fail
     refine stays_r8 (ps := ps) (HT.out.2.1.below HB3.out) HN.out.2.1 HL.out.2 (fun q2 d2 w4 n45 n46 n47 hq2 hb4 => ?_)
     have HQ2 := Hi (And.intro (HQ1.out.below hb4) hq2)
     have HB4 := Hi (HB3.out.trans (hb4.mono HB3.out.size))
     have HK4 := Hi (HK3.out.trans (hb4.mono HK3.out.size))
     clear hq2 hb4 HB3 HK3 HQ1
     go_upto_region 9 with fail
     refine stays_r9 (rs := rs) (HT.out.2.2.2.1.below HB4.out) HN.out.2.2.1 (by have := HLS.out; omega) (fun q3 d3 w5 n48 n49 n50 hq3 hb5 => ?_)
     have HQ3 := Hi (And.intro (HQ2.out.1.below hb5) (And.intro (HQ2.out.2.below hb5) hq3))
     have HB5 := Hi (HB4.out.trans (hb5.mono HB4.out.size))
     have HK5 := Hi (HK4.out.trans (hb5.mono HK4.out.size))
     clear hq3 hb5 HB4 HK4 HQ2
     go_upto_region 10 with fail
     refine stays_r10 (ss := ss) (HT.out.2.2.2.2.below HB5.out) HN.out.2.2.2 (by have := HLS.out; omega) (fun q4 d4 w6 n51 n52 n53 hq4 hb6 => ?_)
     have HQ4 := Hi (And.intro (HQ3.out.1.below hb6) (And.intro (HQ3.out.2.1.below hb6) (And.intro (HQ3.out.2.2.below hb6) hq4)))
     have HB6 := Hi (HB5.out.trans (hb6.mono HB5.out.size))
     have HK6 := Hi (HK5.out.trans (hb6.mono HK5.out.size))
     clear hq4 hb6 HB5 HK5 HQ3
     have CC2 := Hi (CC.out HF2.out.1 HF2.out.2 w6 HB6.out)
     go_upto_region 12 with (go_at_call 10; refine CC2.out.mono ?_; rintro r w7 ⟨q5, d5, es, rfl, hy, hq5, hb7⟩; have HY := Hi (And.intro hy hq5); have HK7 := Lib.hid hb7; clear hy hq5 hb7)
     clear CC2
     have HB7 := Hi (HB6.out.trans (HK7.out.mono HB6.out.size))
     have HK8 := Hi (HK6.out.trans (HK7.out.mono HK6.out.size))
     have hobw7 := (HK8.out.block _ (Array.getElem?_eq_some_iff.1 HB0.out.2).1).trans HB0.out.2
     have x0 : w7.cell? ⟨w.heap.size, 0, none⟩ = some (.int .i64 a) := by rw [cell_of hobw7]; rfl
     have x1 : w7.cell? ⟨w.heap.size, 1, none⟩ = some (.int .i64 b) := by rw [cell_of hobw7]; rfl
     have x2 : w7.cell? ⟨w.heap.size, 2, none⟩ = some (.int .i64 c) := by rw [cell_of hobw7]; rfl
     clear hobw7
     go_upto_region 13 with (go_at_call 11; refine (SP.out _ HB7.out).mono ?_; rintro r w8 ⟨rfl, hb8⟩; have HK9 := Lib.hid hb8; clear hb8)
     clear x0 x1 x2
     have HB8 := Hi (HB7.out.trans (HK9.out.mono HB7.out.size))
     have HK10 := Hi (HK8.out.trans (HK9.out.mono HK8.out.size))
     have hobw8 := (HK10.out.block _ (Array.getElem?_eq_some_iff.1 HB0.out.2).1).trans HB0.out.2
     have x0 : w8.cell? ⟨w.heap.size, 0, none⟩ = some (.int .i64 a) := by rw [cell_of hobw8]; rfl
     have x1 : w8.cell? ⟨w.heap.size, 1, none⟩ = some (.int .i64 b) := by rw [cell_of hobw8]; rfl
     have x2 : w8.cell? ⟨w.heap.size, 2, none⟩ = some (.int .i64 c) := by rw [cell_of hobw8]; rfl
     clear hobw8
     go_upto_region 14 with (go_at_call 9; refine (FA.out _ HB8.out).mono ?_; rintro r w9 ⟨rfl, hb9⟩; have HK11 := Lib.hid hb9; clear hb9)
     clear x0 x1 x2
     have HB9 := Hi (HB8.out.trans (HK11.out.mono HB8.out.size))
     have HK12 := Hi (HK10.out.trans (HK11.out.mono HK10.out.size))
     have hobw9 := (HK12.out.block _ (Array.getElem?_eq_some_iff.1 HB0.out.2).1).trans HB0.out.2
     have x0 : w9.cell? ⟨w.heap.size, 0, none⟩ = some (.int .i64 a) := by rw [cell_of hobw9]; rfl
     have x1 : w9.cell? ⟨w.heap.size, 1, none⟩ = some (.int .i64 b) := by rw [cell_of hobw9]; rfl
     have x2 : w9.cell? ⟨w.heap.size, 2, none⟩ = some (.int .i64 c) := by rw [cell_of hobw9]; rfl
     clear hobw9
     go_upto_region 15 with (go_at_call 12; refine (OV.out _ HB9.out).mono ?_; rintro r w10 ⟨rfl, hb10⟩; have HK13 := Lib.hid hb10; clear hb10)
     clear x0 x1 x2
     have HB10 := Hi (HB9.out.trans (HK13.out.mono HB9.out.size))
     have HU : Hid (Below w6.heap.size w6 w10) := Hi (HK7.out.trans ((HK9.out.trans ((HK11.out.trans (HK13.out.mono HK11.out.size)).mono HK9.out.size)).mono HK7.out.size))
     have HU7 : Hid (Below w7.heap.size w7 w10) := Hi (HK9.out.trans ((HK11.out.trans (HK13.out.mono HK11.out.size)).mono HK9.out.size))
     have HA := Hi (And.intro (HT.out.1.below HB10.out) (And.intro (HT.out.2.1.below HB10.out) (And.intro (HT.out.2.2.2.1.below HB10.out) (HT.out.2.2.2.2.below HB10.out))))
     have HQ5 := Hi (And.intro (HQ4.out.1.below HU.out) (And.intro (HQ4.out.2.1.below HU.out) (And.intro (HQ4.out.2.2.1.below HU.out) (HQ4.out.2.2.2.below HU.out))))
     have HY5 := Hi (And.intro HY.out.1 (HY.out.2.below HU7.out))
     clear HK7 HK8 HK9 HK10 HK11 HK12 HK13 HB6 HB7 HB8 HB9 HQ4 HY HU HU7 HK6
     go_wp2_with fail
     refine stays_l16 (ts := ts) HA.out.1 HQ5.out.1 HL.out.1 (fun m1 n18 n71 n72 n73 n74 n75 n76 n77 n78 n79 n80 n81 n82 n83 => ?_)
     go_wp2_with fail
     refine stays_l22 (ps := ps) (HA.out.2.1.below (drewN_below _ _ _)) (HQ5.out.2.1.below (drewN_below _ _ _)) HL.out.2 (fun m2 n19 n86 n87 n88 n89 n90 n91 n92 n93 n94 n95 n96 n97 n98 => ?_)
     go_wp2_with fail
     refine stays_l28 (rs := rs) (HA.out.2.2.1.below (drewN_below _ _ _)) (HQ5.out.2.2.1.below (drewN_below _ _ _)) (by have := HLS.out; omega) (fun m3 n20 n101 n102 n103 n104 n105 n106 n107 n108 n109 n110 n111 n112 n113 => ?_)
     go_wp2_with fail
     refine stays_l34 (ss := ss) (HA.out.2.2.2.below (drewN_below _ _ _)) (HQ5.out.2.2.2.below (drewN_below _ _ _)) (by have := HLS.out; omega) (fun m4 n21 n116 n117 n118 n119 n120 n121 n122 n123 n124 n125 n126 n127 n128 => ?_)
     have SC2 := Hi (fun n wx (hb : Below (w10.drewN n).heap.size (w10.drewN n) wx) => SC.out HF2.out.1 HF2.out.2 es q5 d5 wx (HB10.out.trans (((drewN_below w10.heap.size w10 n).trans hb).mono HB10.out.size)) (HY5.out.2.below ((drewN_below w10.heap.size w10 n).trans hb)) HY5.out.1)
     go_wp2_with (first
      | (go_at_call 7; refine (SA.out _).mono ?_; rintro r w12 ⟨rfl, hb12⟩; have HB12 := Lib.hid hb12; clear hb12)
      | (go_at_call 13; refine (SC2.out _ _ HB12.out).mono ?_; rintro r w13 ⟨rfl, hb13⟩; have HB13 := Hi (HB12.out.trans (hb13.mono HB12.out.size)); clear hb13))
     exact HR.out _ (HB10.out.trans (((drewN_below w10.heap.size w10 _).trans HB13.out).mono HB10.out.size))
end Go.Proofs.Ytkndmibmmoikbaa
