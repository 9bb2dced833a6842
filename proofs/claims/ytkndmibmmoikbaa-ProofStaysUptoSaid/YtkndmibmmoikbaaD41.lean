/- Chapter 10: Sy0 Sy1. -/
import Derived.Test.YtkndmibmmoikbaaD38
import Derived.Laws.AppendOwnNone
set_option linter.all false
set_option maxRecDepth 100000
set_option maxHeartbeats 16000000
namespace Go.Proofs.Ytkndmibmmoikbaa
open Go.RowKit
open Cox (Tl)
theorem run_copy (t e : TypeId) (i : TypeInfo) (z : Value) (size bytes : Nat) (ht : Try.prog.underlying t = some (.slice e)) (hi : Try.prog.info? e = some i) (hz : i.zero = some z) (hsize : i.size = size) (hby : i.bytes = bytes) (hzs : z.cells.size = size) (hsz : 0 < size) (ty : TypeId)
 (p : Option Addr) (m c : Nat) (news : List Value) (hp : p = none → m = 0 ∧ c = 0) (w : World) (hl : news.length = m * size) (hnews : ∀ a, p = some a → ∀ j u, news[j]? = some u → w.cell? (a.add j) = some u) (h1 : ∀ u ∈ news, u.oneCell' = true) (hm : m ≤ maxLen) (hb : m * bytes ≤ 140737488355328) :
 ∃ v' w', (Builtin.append_ #[t, t] ty #[.slice none 0 0, .slice p m c]).run Try.prog w = .ok v' w' ∧ w'.ownsRow w.heap.size e size v' m news ∧ Below w.heap.size w w' := by
 have hown : w.ownsRow w.heap.size e size (.slice none 0 0) 0 [] := ⟨by simp, .inl ⟨rfl, rfl⟩⟩
 cases p with
 | none =>
  obtain ⟨rfl, rfl⟩ := hp rfl
  have hr := run_append_owned_none (P := Try.prog) (w := w) w.heap.size t ty e i size ht hi (.slice none 0 0) 0 [] hown
  have hn : news = [] := by
   rw [Nat.zero_mul] at hl
   exact List.eq_nil_of_length_eq_zero hl
  subst hn
  exact ⟨_, _, hr, hown, Below.refl _ _⟩
 | some a =>
  obtain ⟨v', w', hr, h2, h3, _, _⟩ := run_append_own_at (P := Try.prog) w w.heap.size t ty e i z size bytes ht hi hz hsize hby hzs hsz (.slice none 0 0) 0 [] hown a m c news hl (hnews a rfl) h1 (by omega) (by rw [Nat.zero_add]; exact hb) (Nat.le_refl _)
  rw [Nat.zero_add, List.nil_append] at h2
  exact ⟨v', w', hr, h2, (Below.refl _ _).grown h3 (Nat.le_refl _) (fun k hk => by cases hk)⟩
theorem info43 : (Try.prog.info? 43).map (fun i => (i.zero, i.size, i.bytes)) = some (some (.agg #[.int .i64 0, .int .i64 0, .int .i64 0, .int .i64 0]), 4, 32) := by kernel_rfl
theorem info48 : (Try.prog.info? 48).map (fun i => (i.zero, i.size, i.bytes)) = some (some (.agg #[.slice none 0 0, .int .i64 0, .int .i64 0, .int .i64 0, .bool false]), 5, 56) := by kernel_rfl
def NilOk (p : Option Addr) (n c : Nat) : Prop := p = none → n = 0 ∧ c = 0
theorem add_flat (b o j : Nat) : (⟨b, o, none⟩ : Addr).add j = ⟨b, o + j, none⟩ := by
 unfold Addr.add
 split
 · rename_i h; rw [h]; rfl
 · rfl
theorem strs_flat {w : World} {p : Option Addr} {l : List ByteArray} (h : StrsAt w p l) : ∀ a, p = some a → ∀ j u, (l.map Value.string)[j]? = some u → w.cell? (a.add j) = some u := by
 intro a ha j u hu
 rw [List.getElem?_map] at hu
 obtain ⟨s, hs, rfl⟩ := Option.map_eq_some_iff.1 hu
 obtain ⟨hj, rfl⟩ := List.getElem?_eq_some_iff.1 hs
 obtain ⟨b, o, hb, hr⟩ := h (by intro e; rw [e] at hj; simp at hj)
 rw [ha] at hb
 cases hb
 rw [add_flat]
 exact hr j hj
theorem ints_flat {w : World} {p : Option Addr} {l : List Int} (h : IntsAt w p l) : ∀ a, p = some a → ∀ j u, (l.map (Value.int .i64))[j]? = some u → w.cell? (a.add j) = some u := by
 intro a ha j u hu
 rw [List.getElem?_map] at hu
 obtain ⟨s, hs, rfl⟩ := Option.map_eq_some_iff.1 hu
 obtain ⟨hj, rfl⟩ := List.getElem?_eq_some_iff.1 hs
 obtain ⟨b, o, hb, hr⟩ := h (by intro e; rw [e] at hj; simp at hj)
 rw [ha] at hb
 cases hb
 rw [add_flat]
 exact hr j hj
theorem four_get {α : Type} (f : α → List Value) (hf : ∀ x, (f x).length = 4) (l : List α) (i j : Nat) (hj : j < 4) : (l.flatMap f)[i * 4 + j]? = (l[i]?).bind fun x => (f x)[j]? := by
 induction l generalizing i with
 | nil => simp
 | cons x l ih =>
  rw [List.flatMap_cons]
  cases i with
  | zero =>
   rw [List.getElem?_append_left (by rw [hf]; omega)]
   simp
  | succ i =>
   rw [List.getElem?_append_right (by rw [hf]; omega), hf]
   have : (i + 1) * 4 + j - 4 = i * 4 + j := by omega
   rw [this, ih]
   simp
theorem four_len {α : Type} (f : α → List Value) (hf : ∀ x, (f x).length = 4) (l : List α) : (l.flatMap f).length = l.length * 4 := by
 induction l with
 | nil => simp
 | cons x l ih => rw [List.flatMap_cons, List.length_append, hf, ih]; simp; omega
theorem four_flat {α : Type} (f : α → List Value) (hf : ∀ x, (f x).length = 4) {w : World} {l : List α} {b o : Nat} (h : ∀ i (hi : i < l.length), ∀ j, j < 4 → w.cell? ⟨b, o + i * 4 + j, none⟩ = (f l[i])[j]?) :
 ∀ j u, (l.flatMap f)[j]? = some u → w.cell? ((⟨b, o, none⟩ : Addr).add j) = some u := by
 intro j u hu
 obtain ⟨hlt, _⟩ := List.getElem?_eq_some_iff.1 hu
 rw [four_len f hf] at hlt
 have hj : j = j / 4 * 4 + j % 4 := by omega
 have hi : j / 4 < l.length := by omega
 rw [hj, four_get f hf l _ _ (by omega), List.getElem?_eq_getElem hi] at hu
 have h1 := h (j / 4) hi (j % 4) (by omega)
 rw [add_flat]
 have e : o + j = o + j / 4 * 4 + j % 4 := by omega
 rw [e, h1]
 exact hu
def pf4 (q : PairD) : List Value := [.string q.1.tile, .int .i64 q.1.mir, .string q.2.tile, .int .i64 q.2.mir]
def sf4 (s : StepD) : List Value := [.int .i64 s.kind, .int .i64 s.at_, .int .i64 s.i, .int .i64 s.j]
theorem pairs_flat {w : World} {p : Option Addr} {l : List PairD} (h : PairsAt w p l) : ∀ a, p = some a → ∀ j u, (l.flatMap pf4)[j]? = some u → w.cell? (a.add j) = some u := by
 intro a ha j u hu
 obtain ⟨b, o, hb, hr⟩ := h (by intro e; rw [e] at hu; simp at hu)
 rw [ha] at hb
 cases hb
 refine four_flat pf4 (fun _ => rfl) (fun i hi j hj => ?_) j u hu
 obtain ⟨c0, c1, c2, c3⟩ := hr i hi
 rcases j with _ | _ | _ | _ | j
 · exact c0
 · exact c1
 · exact c2
 · exact c3
 · omega
theorem steps_flat {w : World} {p : Option Addr} {l : List StepD} (h : StepsAt w p l) : ∀ a, p = some a → ∀ j u, (l.flatMap sf4)[j]? = some u → w.cell? (a.add j) = some u := by
 intro a ha j u hu
 obtain ⟨b, o, hb, hr⟩ := h (by intro e; rw [e] at hu; simp at hu)
 rw [ha] at hb
 cases hb
 refine four_flat sf4 (fun _ => rfl) (fun i hi j hj => ?_) j u hu
 obtain ⟨c0, c1, c2, c3⟩ := hr i hi
 rcases j with _ | _ | _ | _ | j
 · exact c0
 · exact c1
 · exact c2
 · exact c3
 · omega
theorem strs_own {w : World} {B : Nat} {v : Value} {l : List ByteArray} (h : w.ownsRow B 9 1 v l.length (l.map Value.string)) : ∃ p c, v = .slice p l.length c ∧ StrsAt w p l := by
 obtain ⟨p, c, rfl⟩ := owns_form h
 refine ⟨p, c, rfl, fun hne => ?_⟩
 have h0 : 0 < l.length := List.length_pos_iff.2 hne
 obtain ⟨g, cap, hv, _⟩ := owns_cell h (i := 0) (by simpa using h0)
 have hp : p = some ⟨g, 0, none⟩ := by simp at hv; exact hv.1
 refine ⟨g, 0, hp, fun i hi => ?_⟩
 obtain ⟨g', cap', hv', hc, _⟩ := owns_cell h (i := i) (by simpa using hi)
 have hp' : p = some ⟨g', 0, none⟩ := by simp at hv'; exact hv'.1
 rw [hp] at hp'
 cases hp'
 rw [Nat.zero_add, hc, List.getElem?_map, List.getElem?_eq_getElem hi]
 rfl
theorem ints_own {w : World} {B : Nat} {v : Value} {l : List Int} (h : w.ownsRow B 3 1 v l.length (l.map (Value.int .i64))) : ∃ p c, v = .slice p l.length c ∧ IntsAt w p l := by
 obtain ⟨p, c, rfl⟩ := owns_form h
 refine ⟨p, c, rfl, fun hne => ?_⟩
 have h0 : 0 < l.length := List.length_pos_iff.2 hne
 obtain ⟨g, cap, hv, _⟩ := owns_cell h (i := 0) (by simpa using h0)
 have hp : p = some ⟨g, 0, none⟩ := by simp at hv; exact hv.1
 refine ⟨g, 0, hp, fun i hi => ?_⟩
 obtain ⟨g', cap', hv', hc, _⟩ := owns_cell h (i := i) (by simpa using hi)
 have hp' : p = some ⟨g', 0, none⟩ := by simp at hv'; exact hv'.1
 rw [hp] at hp'
 cases hp'
 rw [Nat.zero_add, hc, List.getElem?_map, List.getElem?_eq_getElem hi]
 rfl
theorem four_own {α : Type} (f : α → List Value) (hf : ∀ x, (f x).length = 4) {w : World} {B : Nat} {e : TypeId} {v : Value} {l : List α} (h : w.ownsRow B e 4 v l.length (l.flatMap f)) : ∃ p c, v = .slice p l.length c ∧ (l ≠ [] → ∃ g, p = some ⟨g, 0, none⟩ ∧ ∀ i (hi : i < l.length), ∀ j, j < 4 → w.cell? ⟨g, 0 + i * 4 + j, none⟩ = (f l[i])[j]?) := by
 obtain ⟨p, c, rfl⟩ := owns_form h
 refine ⟨p, c, rfl, fun hne => ?_⟩
 have h0 : 0 < l.length := List.length_pos_iff.2 hne
 have hfl := four_len f hf l
 obtain ⟨g, cap, hv, _⟩ := owns_cell h (i := 0) (by rw [hfl]; omega)
 have hp : p = some ⟨g, 0, none⟩ := by simp at hv; exact hv.1
 refine ⟨g, hp, fun i hi j hj => ?_⟩
 obtain ⟨g', cap', hv', hc, _⟩ := owns_cell h (i := i * 4 + j) (by rw [hfl]; omega)
 have hp' : p = some ⟨g', 0, none⟩ := by simp at hv'; exact hv'.1
 rw [hp] at hp'
 cases hp'
 rw [Nat.zero_add, hc, four_get f hf l i j hj, List.getElem?_eq_getElem hi]
 rfl
theorem pairs_own {w : World} {B : Nat} {v : Value} {l : List PairD} (h : w.ownsRow B 41 4 v l.length (l.flatMap pf4)) : ∃ p c, v = .slice p l.length c ∧ PairsAt w p l := by
 obtain ⟨p, c, rfl, hr⟩ := four_own pf4 (fun _ => rfl) h
 refine ⟨p, c, rfl, fun hne => ?_⟩
 obtain ⟨g, hp, hc⟩ := hr hne
 exact ⟨g, 0, hp, fun i hi => ⟨hc i hi 0 (by decide), hc i hi 1 (by decide), hc i hi 2 (by decide), hc i hi 3 (by decide)⟩⟩
theorem steps_own {w : World} {B : Nat} {v : Value} {l : List StepD} (h : w.ownsRow B 43 4 v l.length (l.flatMap sf4)) : ∃ p c, v = .slice p l.length c ∧ StepsAt w p l := by
 obtain ⟨p, c, rfl, hr⟩ := four_own sf4 (fun _ => rfl) h
 refine ⟨p, c, rfl, fun hne => ?_⟩
 obtain ⟨g, hp, hc⟩ := hr hne
 exact ⟨g, 0, hp, fun i hi => ⟨hc i hi 0 (by decide), hc i hi 1 (by decide), hc i hi 2 (by decide), hc i hi 3 (by decide)⟩⟩
end Go.Proofs.Ytkndmibmmoikbaa
namespace Go.Proofs.Ytkndmibmmoikbaa
open Go.RowKit
open Cox (Tl)
theorem wpList_append_eq {P : Program} {w : World} {ops : Array Oper} {rest : List Oper} {o : Oper} {a : Act} {Q : Exit → Act → World → Prop} (hgd : o.guard = none) (s x : Operand) (t : TypeId)
 (ho : o.op = .call { callee := .builtin .append, args := #[s, x], argTypes := #[t, t] }) {v1 v2 v' : Value} {w' : World} (hs : a.eval s = v1) (hx : a.eval x = v2) (hr : (Builtin.append_ #[t, t] o.type #[v1, v2]).run P w = .ok v' w')
 (h : wpList P ops Q rest (a.put o.dst v') w') : wpList P ops Q (o :: rest) a w := by
 refine wpList_plain hgd fun K hK => ?_
 unfold Oper.wp execOp
 simp only [ho, resolve, invoke, builtin, Sem.run_bind, Sem.run_pure, Result.andThen_ok, List.map_toArray, List.map_cons, List.map_nil, hs, hx, hr]
 exact hK _ _ h
noncomputable def staysR7 : Code := (Try.f4.body.bind (onlyR 7)).getD .skip
theorem stays_r7 {Q : Exit → Act → World → Prop} {p : Option Addr} {c : Nat} {ts : List ByteArray} {ds : List Deferred} {wz : World} (ha : StrsAt wz p ts) (hn : NilOk p ts.length c) (hl : ts.length ≤ 2000000) {u0 u2 u3 u4 u5 u6 u7 u8 u9 u10 u11 u12 u14 u15 u16 u17 u18 u19 u20 u21 u22 u23 u24 u25 u26 u27 u28 u29 u30 u31 u32 u33 u34 u35 u36 u37 u38 u39 u40 u41 u42 u43 u44 u45 u46 u47 u48 u49 u50 u51 u52 u53 u54 u55 u56 u57 u58 u59 u60 u61 u62 u63 u64 u65 u66 u67 u68 u69 u70 u71 u72 u73 u74 u75 u76 u77 u78 u79 u80 u81 u82 u83 u84 u85 u86 u87 u88 u89 u90 u91 u92 u93 u94 u95 u96 u97 u98 u99 u100 u101 u102 u103 u104 u105 u106 u107 u108 u109 u110 u111 u112 u113 u114 u115 u116 u117 u118 u119 u120 u121 u122 u123 u124 u125 u126 u127 u128 u129 u130 u131 u132 u133 u134 : Value}
 (hN : ∀ q d w' (n42 n43 n44 : Value), StrsAt w' q ts → Below wz.heap.size wz w' → Q .normal ⟨#[u0, .slice p ts.length c, u2, u3, u4, u5, u6, u7, u8, u9, u10, u11, u12, .slice q ts.length d, u14, u15, u16, u17, u18, u19, u20, u21, u22, u23, u24, u25, u26, u27, u28, u29, u30, u31, u32, u33, u34, u35, u36, u37, u38, u39, u40, u41, n42, n43, n44, u45, u46, u47, u48, u49, u50, u51, u52, u53, u54, u55, u56, u57, u58, u59, u60, u61, u62, u63, u64, u65, u66, u67, u68, u69, u70, u71, u72, u73, u74, u75, u76, u77, u78, u79, u80, u81, u82, u83, u84, u85, u86, u87, u88, u89, u90, u91, u92, u93, u94, u95, u96, u97, u98, u99, u100, u101, u102, u103, u104, u105, u106, u107, u108, u109, u110, u111, u112, u113, u114, u115, u116, u117, u118, u119, u120, u121, u122, u123, u124, u125, u126, u127, u128, u129, u130, u131, u132, u133, u134], ds⟩ w') :
 Code.wp Try.prog staysR7 Q ⟨#[u0, .slice p ts.length c, u2, u3, u4, u5, u6, u7, u8, u9, u10, u11, u12, .slice none 0 0, u14, u15, u16, u17, u18, u19, u20, u21, u22, u23, u24, u25, u26, u27, u28, u29, u30, u31, u32, u33, u34, u35, u36, u37, u38, u39, u40, u41, u42, u43, u44, u45, u46, u47, u48, u49, u50, u51, u52, u53, u54, u55, u56, u57, u58, u59, u60, u61, u62, u63, u64, u65, u66, u67, u68, u69, u70, u71, u72, u73, u74, u75, u76, u77, u78, u79, u80, u81, u82, u83, u84, u85, u86, u87, u88, u89, u90, u91, u92, u93, u94, u95, u96, u97, u98, u99, u100, u101, u102, u103, u104, u105, u106, u107, u108, u109, u110, u111, u112, u113, u114, u115, u116, u117, u118, u119, u120, u121, u122, u123, u124, u125, u126, u127, u128, u129, u130, u131, u132, u133, u134], ds⟩ wz := by
 obtain ⟨i0, hi, hz0, hz1, hz2⟩ := info_parts info9
 obtain ⟨v', w', hr, ho, hb⟩ := run_copy 24 9 i0 _ 1 16 Try.underlying24 hi hz0 hz1 hz2 rfl (by decide) 24 p ts.length c (ts.map Value.string) hn wz (by simp) (strs_flat ha) (by intro u hu; obtain ⟨x, hx, rfl⟩ := List.mem_map.1 hu; rfl) (by unfold maxLen; omega) (by omega)
 obtain ⟨q, d, rfl, hat⟩ := strs_own ho
 have HN := Hi (hN q d w')
 have HA := Hi (And.intro hat hb)
 have HR := Lib.hid hr
 clear hN ho ha hn hat hb hr
 conv => arg 2; whnf
 go_wp2_with (at_builtin; refine wpList_append_eq rfl (.tmp 42) (.tmp 43) 24 rfl rfl rfl HR.out ?_)
 exact HN.out _ _ _ HA.out.1 HA.out.2
noncomputable def staysR8 : Code := (Try.f4.body.bind (onlyR 8)).getD .skip
theorem stays_r8 {Q : Exit → Act → World → Prop} {p : Option Addr} {c : Nat} {ps : List PairD} {ds : List Deferred} {wz : World} (ha : PairsAt wz p ps) (hn : NilOk p ps.length c) (hl : ps.length ≤ 2000000) {u0 u1 u3 u4 u5 u6 u7 u8 u9 u10 u11 u12 u13 u15 u16 u17 u18 u19 u20 u21 u22 u23 u24 u25 u26 u27 u28 u29 u30 u31 u32 u33 u34 u35 u36 u37 u38 u39 u40 u41 u42 u43 u44 u45 u46 u47 u48 u49 u50 u51 u52 u53 u54 u55 u56 u57 u58 u59 u60 u61 u62 u63 u64 u65 u66 u67 u68 u69 u70 u71 u72 u73 u74 u75 u76 u77 u78 u79 u80 u81 u82 u83 u84 u85 u86 u87 u88 u89 u90 u91 u92 u93 u94 u95 u96 u97 u98 u99 u100 u101 u102 u103 u104 u105 u106 u107 u108 u109 u110 u111 u112 u113 u114 u115 u116 u117 u118 u119 u120 u121 u122 u123 u124 u125 u126 u127 u128 u129 u130 u131 u132 u133 u134 : Value}
 (hN : ∀ q d w' (n45 n46 n47 : Value), PairsAt w' q ps → Below wz.heap.size wz w' → Q .normal ⟨#[u0, u1, .slice p ps.length c, u3, u4, u5, u6, u7, u8, u9, u10, u11, u12, u13, .slice q ps.length d, u15, u16, u17, u18, u19, u20, u21, u22, u23, u24, u25, u26, u27, u28, u29, u30, u31, u32, u33, u34, u35, u36, u37, u38, u39, u40, u41, u42, u43, u44, n45, n46, n47, u48, u49, u50, u51, u52, u53, u54, u55, u56, u57, u58, u59, u60, u61, u62, u63, u64, u65, u66, u67, u68, u69, u70, u71, u72, u73, u74, u75, u76, u77, u78, u79, u80, u81, u82, u83, u84, u85, u86, u87, u88, u89, u90, u91, u92, u93, u94, u95, u96, u97, u98, u99, u100, u101, u102, u103, u104, u105, u106, u107, u108, u109, u110, u111, u112, u113, u114, u115, u116, u117, u118, u119, u120, u121, u122, u123, u124, u125, u126, u127, u128, u129, u130, u131, u132, u133, u134], ds⟩ w') :
 Code.wp Try.prog staysR8 Q ⟨#[u0, u1, .slice p ps.length c, u3, u4, u5, u6, u7, u8, u9, u10, u11, u12, u13, .slice none 0 0, u15, u16, u17, u18, u19, u20, u21, u22, u23, u24, u25, u26, u27, u28, u29, u30, u31, u32, u33, u34, u35, u36, u37, u38, u39, u40, u41, u42, u43, u44, u45, u46, u47, u48, u49, u50, u51, u52, u53, u54, u55, u56, u57, u58, u59, u60, u61, u62, u63, u64, u65, u66, u67, u68, u69, u70, u71, u72, u73, u74, u75, u76, u77, u78, u79, u80, u81, u82, u83, u84, u85, u86, u87, u88, u89, u90, u91, u92, u93, u94, u95, u96, u97, u98, u99, u100, u101, u102, u103, u104, u105, u106, u107, u108, u109, u110, u111, u112, u113, u114, u115, u116, u117, u118, u119, u120, u121, u122, u123, u124, u125, u126, u127, u128, u129, u130, u131, u132, u133, u134], ds⟩ wz := by
 obtain ⟨i0, hi, hz0, hz1, hz2⟩ := info_parts info41
 obtain ⟨v', w', hr, ho, hb⟩ := run_copy 25 41 i0 _ 4 48 Try.underlying25 hi hz0 hz1 hz2 rfl (by decide) 25 p ps.length c (ps.flatMap pf4) hn wz (four_len _ (fun _ => rfl) _) (pairs_flat ha) (by intro u hu; obtain ⟨x, hx, hu2⟩ := List.mem_flatMap.1 hu; simp only [pf4, sf4, List.mem_cons, List.not_mem_nil, or_false] at hu2; rcases hu2 with rfl | rfl | rfl | rfl <;> rfl) (by unfold maxLen; omega) (by omega)
 obtain ⟨q, d, rfl, hat⟩ := pairs_own ho
 have HN := Hi (hN q d w')
 have HA := Hi (And.intro hat hb)
 have HR := Lib.hid hr
 clear hN ho ha hn hat hb hr
 conv => arg 2; whnf
 go_wp2_with (at_builtin; refine wpList_append_eq rfl (.tmp 45) (.tmp 46) 25 rfl rfl rfl HR.out ?_)
 exact HN.out _ _ _ HA.out.1 HA.out.2
noncomputable def staysR9 : Code := (Try.f4.body.bind (onlyR 9)).getD .skip
theorem stays_r9 {Q : Exit → Act → World → Prop} {p : Option Addr} {c : Nat} {rs : List Int} {ds : List Deferred} {wz : World} (ha : IntsAt wz p rs) (hn : NilOk p rs.length c) (hl : rs.length ≤ 2000000) {u0 u1 u2 u3 u5 u6 u7 u8 u9 u10 u11 u12 u13 u14 u16 u17 u18 u19 u20 u21 u22 u23 u24 u25 u26 u27 u28 u29 u30 u31 u32 u33 u34 u35 u36 u37 u38 u39 u40 u41 u42 u43 u44 u45 u46 u47 u48 u49 u50 u51 u52 u53 u54 u55 u56 u57 u58 u59 u60 u61 u62 u63 u64 u65 u66 u67 u68 u69 u70 u71 u72 u73 u74 u75 u76 u77 u78 u79 u80 u81 u82 u83 u84 u85 u86 u87 u88 u89 u90 u91 u92 u93 u94 u95 u96 u97 u98 u99 u100 u101 u102 u103 u104 u105 u106 u107 u108 u109 u110 u111 u112 u113 u114 u115 u116 u117 u118 u119 u120 u121 u122 u123 u124 u125 u126 u127 u128 u129 u130 u131 u132 u133 u134 : Value}
 (hN : ∀ q d w' (n48 n49 n50 : Value), IntsAt w' q rs → Below wz.heap.size wz w' → Q .normal ⟨#[u0, u1, u2, u3, .slice p rs.length c, u5, u6, u7, u8, u9, u10, u11, u12, u13, u14, .slice q rs.length d, u16, u17, u18, u19, u20, u21, u22, u23, u24, u25, u26, u27, u28, u29, u30, u31, u32, u33, u34, u35, u36, u37, u38, u39, u40, u41, u42, u43, u44, u45, u46, u47, n48, n49, n50, u51, u52, u53, u54, u55, u56, u57, u58, u59, u60, u61, u62, u63, u64, u65, u66, u67, u68, u69, u70, u71, u72, u73, u74, u75, u76, u77, u78, u79, u80, u81, u82, u83, u84, u85, u86, u87, u88, u89, u90, u91, u92, u93, u94, u95, u96, u97, u98, u99, u100, u101, u102, u103, u104, u105, u106, u107, u108, u109, u110, u111, u112, u113, u114, u115, u116, u117, u118, u119, u120, u121, u122, u123, u124, u125, u126, u127, u128, u129, u130, u131, u132, u133, u134], ds⟩ w') :
 Code.wp Try.prog staysR9 Q ⟨#[u0, u1, u2, u3, .slice p rs.length c, u5, u6, u7, u8, u9, u10, u11, u12, u13, u14, .slice none 0 0, u16, u17, u18, u19, u20, u21, u22, u23, u24, u25, u26, u27, u28, u29, u30, u31, u32, u33, u34, u35, u36, u37, u38, u39, u40, u41, u42, u43, u44, u45, u46, u47, u48, u49, u50, u51, u52, u53, u54, u55, u56, u57, u58, u59, u60, u61, u62, u63, u64, u65, u66, u67, u68, u69, u70, u71, u72, u73, u74, u75, u76, u77, u78, u79, u80, u81, u82, u83, u84, u85, u86, u87, u88, u89, u90, u91, u92, u93, u94, u95, u96, u97, u98, u99, u100, u101, u102, u103, u104, u105, u106, u107, u108, u109, u110, u111, u112, u113, u114, u115, u116, u117, u118, u119, u120, u121, u122, u123, u124, u125, u126, u127, u128, u129, u130, u131, u132, u133, u134], ds⟩ wz := by
 obtain ⟨i0, hi, hz0, hz1, hz2⟩ := info_parts info3
 obtain ⟨v', w', hr, ho, hb⟩ := run_copy 33 3 i0 _ 1 8 Try.underlying33 hi hz0 hz1 hz2 rfl (by decide) 33 p rs.length c (rs.map (Value.int .i64)) hn wz (by simp) (ints_flat ha) (by intro u hu; obtain ⟨x, hx, rfl⟩ := List.mem_map.1 hu; rfl) (by unfold maxLen; omega) (by omega)
 obtain ⟨q, d, rfl, hat⟩ := ints_own ho
 have HN := Hi (hN q d w')
 have HA := Hi (And.intro hat hb)
 have HR := Lib.hid hr
 clear hN ho ha hn hat hb hr
 conv => arg 2; whnf
 go_wp2_with (at_builtin; refine wpList_append_eq rfl (.tmp 48) (.tmp 49) 33 rfl rfl rfl HR.out ?_)
 exact HN.out _ _ _ HA.out.1 HA.out.2
noncomputable def staysR10 : Code := (Try.f4.body.bind (onlyR 10)).getD .skip
theorem stays_r10 {Q : Exit → Act → World → Prop} {p : Option Addr} {c : Nat} {ss : List StepD} {ds : List Deferred} {wz : World} (ha : StepsAt wz p ss) (hn : NilOk p ss.length c) (hl : ss.length ≤ 2000000) {u0 u1 u2 u3 u4 u6 u7 u8 u9 u10 u11 u12 u13 u14 u15 u17 u18 u19 u20 u21 u22 u23 u24 u25 u26 u27 u28 u29 u30 u31 u32 u33 u34 u35 u36 u37 u38 u39 u40 u41 u42 u43 u44 u45 u46 u47 u48 u49 u50 u51 u52 u53 u54 u55 u56 u57 u58 u59 u60 u61 u62 u63 u64 u65 u66 u67 u68 u69 u70 u71 u72 u73 u74 u75 u76 u77 u78 u79 u80 u81 u82 u83 u84 u85 u86 u87 u88 u89 u90 u91 u92 u93 u94 u95 u96 u97 u98 u99 u100 u101 u102 u103 u104 u105 u106 u107 u108 u109 u110 u111 u112 u113 u114 u115 u116 u117 u118 u119 u120 u121 u122 u123 u124 u125 u126 u127 u128 u129 u130 u131 u132 u133 u134 : Value}
 (hN : ∀ q d w' (n51 n52 n53 : Value), StepsAt w' q ss → Below wz.heap.size wz w' → Q .normal ⟨#[u0, u1, u2, u3, u4, .slice p ss.length c, u6, u7, u8, u9, u10, u11, u12, u13, u14, u15, .slice q ss.length d, u17, u18, u19, u20, u21, u22, u23, u24, u25, u26, u27, u28, u29, u30, u31, u32, u33, u34, u35, u36, u37, u38, u39, u40, u41, u42, u43, u44, u45, u46, u47, u48, u49, u50, n51, n52, n53, u54, u55, u56, u57, u58, u59, u60, u61, u62, u63, u64, u65, u66, u67, u68, u69, u70, u71, u72, u73, u74, u75, u76, u77, u78, u79, u80, u81, u82, u83, u84, u85, u86, u87, u88, u89, u90, u91, u92, u93, u94, u95, u96, u97, u98, u99, u100, u101, u102, u103, u104, u105, u106, u107, u108, u109, u110, u111, u112, u113, u114, u115, u116, u117, u118, u119, u120, u121, u122, u123, u124, u125, u126, u127, u128, u129, u130, u131, u132, u133, u134], ds⟩ w') :
 Code.wp Try.prog staysR10 Q ⟨#[u0, u1, u2, u3, u4, .slice p ss.length c, u6, u7, u8, u9, u10, u11, u12, u13, u14, u15, .slice none 0 0, u17, u18, u19, u20, u21, u22, u23, u24, u25, u26, u27, u28, u29, u30, u31, u32, u33, u34, u35, u36, u37, u38, u39, u40, u41, u42, u43, u44, u45, u46, u47, u48, u49, u50, u51, u52, u53, u54, u55, u56, u57, u58, u59, u60, u61, u62, u63, u64, u65, u66, u67, u68, u69, u70, u71, u72, u73, u74, u75, u76, u77, u78, u79, u80, u81, u82, u83, u84, u85, u86, u87, u88, u89, u90, u91, u92, u93, u94, u95, u96, u97, u98, u99, u100, u101, u102, u103, u104, u105, u106, u107, u108, u109, u110, u111, u112, u113, u114, u115, u116, u117, u118, u119, u120, u121, u122, u123, u124, u125, u126, u127, u128, u129, u130, u131, u132, u133, u134], ds⟩ wz := by
 obtain ⟨i0, hi, hz0, hz1, hz2⟩ := info_parts info43
 obtain ⟨v', w', hr, ho, hb⟩ := run_copy 34 43 i0 _ 4 32 Try.underlying34 hi hz0 hz1 hz2 rfl (by decide) 34 p ss.length c (ss.flatMap sf4) hn wz (four_len _ (fun _ => rfl) _) (steps_flat ha) (by intro u hu; obtain ⟨x, hx, hu2⟩ := List.mem_flatMap.1 hu; simp only [pf4, sf4, List.mem_cons, List.not_mem_nil, or_false] at hu2; rcases hu2 with rfl | rfl | rfl | rfl <;> rfl) (by unfold maxLen; omega) (by omega)
 obtain ⟨q, d, rfl, hat⟩ := steps_own ho
 have HN := Hi (hN q d w')
 have HA := Hi (And.intro hat hb)
 have HR := Lib.hid hr
 clear hN ho ha hn hat hb hr
 conv => arg 2; whnf
 go_wp2_with (at_builtin; refine wpList_append_eq rfl (.tmp 51) (.tmp 52) 34 rfl rfl rfl HR.out ?_)
 exact HN.out _ _ _ HA.out.1 HA.out.2
end Go.Proofs.Ytkndmibmmoikbaa
