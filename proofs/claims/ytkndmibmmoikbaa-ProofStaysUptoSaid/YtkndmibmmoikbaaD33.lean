/- Chapter 10: Ov5 Sp1a Sp1b. -/
import Derived.Test.YtkndmibmmoikbaaD32
import Derived.Test.YtkndmibmmoikbaaD28
set_option linter.all false
set_option maxRecDepth 100000
set_option maxHeartbeats 16000000
namespace Go.Proofs.Ytkndmibmmoikbaa
open Go.RowKit
open Cox (Tl)
section
variable {K : Type} [Cox.OR K] (W : Cox.Tri K)
noncomputable def rowAt (ps : List PairD) : List (Fin 3) → List Int → Option (List (Fin 3))
 | u, [] => some u
 | u, k :: r => @ite _ (k ≠ 0 ∧ k ≤ (ps.length : Int) ∧ -(ps.length : Int) ≤ k) (Classical.propDecidable _) (rowAt ps (Cox.nf W (u ++ mot ps k)) r) none
noncomputable def firstIn (v : List (Fin 3)) (ws : List (List (Fin 3))) : List (List (Fin 3)) → Int × List (Fin 3) × List (Fin 3)
 | [] => (20, [], [])
 | t :: r => @ite _ (Cox.nf W (v ++ t) ∈ ws) (Classical.propDecidable _) (0, t, Cox.nf W (v ++ t)) (firstIn v ws r)
noncomputable def overR (a b c : Int) (ts : List ByteArray) (ps : List PairD) (row : List Int) : Int × List (Fin 3) × List (Fin 3) :=
 if nlErr W a b c ts ps ≠ 0 then (nlErr W a b c ts ps, [], []) else if row = [] ∨ 200 < row.length then (20, [], []) else
 match rowAt W ps [] row with
 | none => (20, [], [])
 | some v => if v = [] then (20, [], []) else firstIn W v (tws W ts) (tws W ts)
variable {W}
theorem rowAt_none {ps : List PairD} {row : List Int} {u v : List (Fin 3)} {k : Nat} (h : rowAt W ps u (row.take k) = some v) (hk : k < row.length) (h2 : ¬ (row[k] ≠ 0 ∧ row[k] ≤ (ps.length : Int) ∧ -(ps.length : Int) ≤ row[k])) : rowAt W ps u row = none := by
 induction row generalizing u k with
 | nil => simp at hk
 | cons s t ih =>
  cases k with
  | zero =>
   unfold rowAt
   exact if_neg h2
  | succ k =>
   rw [List.take_succ_cons] at h
   unfold rowAt at h ⊢
   by_cases hs : s ≠ 0 ∧ s ≤ (ps.length : Int) ∧ -(ps.length : Int) ≤ s
   · rw [if_pos hs] at h ⊢
     exact ih h (by simpa using hk) h2
   · rw [if_neg hs]
theorem rowAt_snoc {ps : List PairD} {row : List Int} {u v : List (Fin 3)} {k : Nat} (h : rowAt W ps u (row.take k) = some v) (hk : k < row.length) (h2 : row[k] ≠ 0 ∧ row[k] ≤ (ps.length : Int) ∧ -(ps.length : Int) ≤ row[k]) : rowAt W ps u (row.take (k + 1)) = some (Cox.nf W (v ++ mot ps row[k])) := by
 induction row generalizing u k with
 | nil => simp at hk
 | cons s t ih =>
  cases k with
  | zero =>
   simp [rowAt] at h
   subst h
   rw [List.take_succ_cons]
   unfold rowAt
   refine (if_pos h2).trans ?_
   simp [rowAt]
  | succ k =>
   rw [List.take_succ_cons] at h ⊢
   unfold rowAt at h ⊢
   by_cases hs : s ≠ 0 ∧ s ≤ (ps.length : Int) ∧ -(ps.length : Int) ≤ s
   · rw [if_pos hs] at h ⊢
     exact ih h (by simpa using hk) h2
   · rw [if_neg hs] at h; cases h
theorem mot_len {ps : List PairD} (hg : ∀ q, q ∈ ps → cpair q = 0) (k : Int) : (mot ps k).length ≤ 121 := by
 unfold mot
 cases hq : ps[k.natAbs - 1]? with
 | none => simp
 | some q =>
  obtain ⟨hl, he⟩ := List.getElem?_eq_some_iff.1 hq
  have h1 := cpair_good (hg q (he ▸ List.getElem_mem hl))
  have h2 := (cw_unw (cedge_good h1.1).1).2
  have h3 := (cw_unw (cedge_good h1.2).1).2
  simp only
  unfold motq
  split
  · simp; omega
  · simp; omega
theorem rowAt_len {ps : List PairD} (hg : ∀ q, q ∈ ps → cpair q = 0) {row : List Int} {u v : List (Fin 3)} (h : rowAt W ps u row = some v) : v.length ≤ u.length + 121 * row.length := by
 induction row generalizing u with
 | nil => simp [rowAt] at h; subst h; simp
 | cons s t ih =>
  unfold rowAt at h
  by_cases hs : s ≠ 0 ∧ s ≤ (ps.length : Int) ∧ -(ps.length : Int) ≤ s
  · rw [if_pos hs] at h
    have h1 := ih h
    have h2 := Cox.nf_le W (u ++ mot ps s)
    have h3 := mot_len hg s
    simp at h2 ⊢
    omega
  · rw [if_neg hs] at h; cases h
theorem firstIn_skip {v : List (Fin 3)} {ws : List (List (Fin 3))} : ∀ (k : Nat) (l : List (List (Fin 3))), (∀ j (h : j < l.length), j < k → Cox.nf W (v ++ l[j]) ∉ ws) → k ≤ l.length → firstIn W v ws l = firstIn W v ws (l.drop k)
 | 0, l, _, _ => by simp
 | k + 1, [], _, hk => by simp at hk
 | k + 1, t :: r, h, hk => by
  rw [List.drop_succ_cons]
  rw [← firstIn_skip k r (fun j hj hjk => h (j + 1) (by simpa using hj) (by omega)) (by simpa using hk)]
  have h0 := h 0 (by simp) (by omega)
  conv => lhs; unfold firstIn
  exact if_neg h0
theorem overR_no (a b c : Int) (ts : List ByteArray) (ps : List PairD) (row : List Int) (h0 : nlErr W a b c ts ps = 0) (h1 : ¬ (row = [] ∨ 200 < row.length)) (h : rowAt W ps [] row = none ∨ rowAt W ps [] row = some []) : overR W a b c ts ps row = (20, [], []) := by
 unfold overR
 rw [if_neg (by simp [h0]), if_neg h1]
 rcases h with h | h <;> rw [h] <;> simp
theorem overR_go (a b c : Int) (ts : List ByteArray) (ps : List PairD) (row : List Int) (h0 : nlErr W a b c ts ps = 0) (h1 : ¬ (row = [] ∨ 200 < row.length)) {v : List (Fin 3)} (hv : v ≠ []) (h : rowAt W ps [] row = some v) : overR W a b c ts ps row = firstIn W v (tws W ts) (tws W ts) := by
 unfold overR
 rw [if_neg (by simp [h0]), if_neg h1, h]
 simp [hv]
end
theorem over_any {K : Type} [Cox.OR K] (W : Cox.Tri K) (a b c : Int) (hord : chk a b c = 0 → Ords W a b c) (ts : List ByteArray) (ps : List PairD) (row : List Int) (pt pp pr : Option Addr) (ct cp cr : Nat) (w : World) (hts : StrsAt w pt ts) (hps : PairsAt w pp ps) (hrow : IntsAt w pr row) (hlt : ts.length ≤ maxLen) (hlp : ps.length ≤ maxLen) (hlr : row.length ≤ maxLen)
 (hs : ∀ s, s ∈ ts → s.size ≤ maxLen) (hs2 : ∀ p, p ∈ ps → p.1.tile.size ≤ maxLen ∧ p.2.tile.size ≤ maxLen) :
 Calls Try.prog 12 #[oval a b c, .slice pt ts.length ct, .slice pp ps.length cp, .slice pr row.length cr] w fun e w' => e = .returned (.tuple #[.string (wb (overR W a b c ts ps row).2.1), .string (wb (overR W a b c ts ps row).2.2), .int .i64 (overR W a b c ts ps row).1]) ∧ Below w.heap.size w w' := by
 obtain ⟨R, hR⟩ : ∃ R, R = overR W a b c ts ps row := ⟨_, rfl⟩
 rw [← hR]
 obtain ⟨Q, hQ⟩ : ∃ Q : Ending → World → Prop, Q = fun e w' => e = .returned (.tuple #[.string (wb R.2.1), .string (wb R.2.2), .int .i64 R.1]) ∧ Below w.heap.size w w' := ⟨_, rfl⟩
 rw [← hQ]
 have hmf : ∀ (fn : Fn) (first cap : Array Value) (w : World), (Instr.makeFunc fn first cap).run Try.prog w = .ok (.func fn first cap) w := fun _ _ _ _ => rfl
 obtain ⟨wi, hwi⟩ : ∃ wi, wi = (((w.alloc (.cells #[.int .i64 a, .int .i64 b, .int .i64 c] 23)).alloc (.cells #[.string ⟨#[]⟩] 9)).alloc (.cells #[.string ⟨#[]⟩] 9)).alloc (.cells #[.int .i64 0] 30) := ⟨_, rfl⟩
 have hbi : Below w.heap.size w wi := by rw [hwi]; exact ((((Below.refl _ _).alloc (Nat.le_refl _) _).alloc (by simp) _).alloc (by simp <;> omega) _).alloc (by simp <;> omega) _
 have hsz : wi.heap.size = w.heap.size + 4 := by rw [hwi]; simp
 have hec : wi.heap[w.heap.size + 3]? = some (.cells #[.int .i64 0] 30 (0, 0)) := by rw [hwi]; exact str_new _ _ _ _ (by simp)
 have htc : wi.heap[w.heap.size + 2]? = some (.cells #[.string ⟨#[]⟩] 9 (0, 0)) := by rw [hwi]; exact (Below.heap_alloc _ _ _ (by simp)).trans (str_new _ _ _ _ (by simp))
 have hfc : wi.heap[w.heap.size + 1]? = some (.cells #[.string ⟨#[]⟩] 9 (0, 0)) := by rw [hwi]; exact (Below.heap_alloc _ _ _ (by simp <;> omega)).trans ((Below.heap_alloc _ _ _ (by simp <;> omega)).trans (str_new _ _ _ _ (by simp <;> omega)))
 have hoc : wi.heap[w.heap.size]? = some (.cells #[.int .i64 a, .int .i64 b, .int .i64 c] 23 (0, 0)) := by rw [hwi]; exact (Below.heap_alloc _ _ _ (by simp <;> omega)).trans ((Below.heap_alloc _ _ _ (by simp <;> omega)).trans ((Below.heap_alloc _ _ _ (by simp <;> omega)).trans (str_new _ _ _ _ rfl)))
 have HNO : Hid (∀ (tmps : Array Value) (y : Int) (w' : World), R = (y, [], []) → y ≠ 0 → tmps[8]? = some (.pointer (some ⟨w.heap.size + 1, 0, none⟩)) → tmps[9]? = some (.pointer (some ⟨w.heap.size + 2, 0, none⟩)) → tmps[10]? = some (.pointer (some ⟨w.heap.size + 3, 0, none⟩)) → Below wi.heap.size wi w' → bodyPostD Try.prog Try.f12 Q (.panic (refusal y)) ⟨tmps, [{ target := .fn (.func 32) #[.pointer (some ⟨w.heap.size + 3, 0, none⟩), .pointer (some ⟨w.heap.size + 1, 0, none⟩), .pointer (some ⟨w.heap.size + 2, 0, none⟩)], args := #[] }]⟩ w') := Hi (fun tmps y w' he hy h8 h9 h10 hb => by
  refine over_door_no hy (by omega) (by omega) (by omega) h8 h9 h10 ((hb.block _ (by omega)).trans hec) ((hb.block _ (by omega)).trans hfc) ((hb.block _ (by omega)).trans htc) (fun w1 hb1 => ?_)
  rw [hQ]
  refine ⟨by rw [he]; rfl, hbi.trans ((hb.mono (by omega)).trans ((((hb1.mono (by have := hb.size; omega)).setCell (p := ⟨w.heap.size + 3, 0, none⟩) (by show w.heap.size ≤ w.heap.size + 3; omega) _).setCell (p := ⟨w.heap.size + 1, 0, none⟩) (by show w.heap.size ≤ w.heap.size + 1; omega) _).setCell (p := ⟨w.heap.size + 2, 0, none⟩) (by show w.heap.size ≤ w.heap.size + 2; omega) _))⟩)
 have HYES : Hid (∀ (tmps : Array Value) (f t : List (Fin 3)) (w' : World), R = (0, f, t) → tmps[8]? = some (.pointer (some ⟨w.heap.size + 1, 0, none⟩)) → tmps[9]? = some (.pointer (some ⟨w.heap.size + 2, 0, none⟩)) → tmps[10]? = some (.pointer (some ⟨w.heap.size + 3, 0, none⟩)) → Below wi.heap.size wi w' → bodyPostD Try.prog Try.f12 Q .ret ⟨tmps, [{ target := .fn (.func 32) #[.pointer (some ⟨w.heap.size + 3, 0, none⟩), .pointer (some ⟨w.heap.size + 1, 0, none⟩), .pointer (some ⟨w.heap.size + 2, 0, none⟩)], args := #[] }]⟩ (((w'.setCell ⟨w.heap.size + 1, 0, none⟩ (.string (wb f))).setCell ⟨w.heap.size + 2, 0, none⟩ (.string (wb t))).setCell ⟨w.heap.size + 3, 0, none⟩ (.int .i64 0))) := Hi (fun tmps f t w' he h8 h9 h10 hb => by
  refine over_door_yes (x := 0) (f := .string (wb f)) (t := .string (wb t)) (by omega) (by omega) h8 h9 h10 ?_ ?_ ?_ ?_
  · rw [heap_setCell', if_pos rfl, heap_setCell', if_neg (by omega), heap_setCell', if_neg (by omega), hb.block _ (by omega), hec]; rfl
  · rw [heap_setCell', if_neg (by omega), heap_setCell', if_neg (by omega), heap_setCell', if_pos rfl, hb.block _ (by omega), hfc]; rfl
  · rw [heap_setCell', if_neg (by omega), heap_setCell', if_pos rfl, heap_setCell', if_neg (by omega), hb.block _ (by omega), htc]; rfl
  rw [hQ]
  refine ⟨by rw [he], hbi.trans (Below.setCell (Below.setCell (Below.setCell (Below.setCell (hb.mono (by omega : w.heap.size ≤ wi.heap.size)) (p := ⟨w.heap.size + 1, 0, none⟩) (by show w.heap.size ≤ w.heap.size + 1; omega) _) (p := ⟨w.heap.size + 2, 0, none⟩) (by show w.heap.size ≤ w.heap.size + 2; omega) _) (p := ⟨w.heap.size + 3, 0, none⟩) (by show w.heap.size ≤ w.heap.size + 3; omega) _) (p := ⟨w.heap.size + 3, 0, none⟩) (by show w.heap.size ≤ w.heap.size + 3; omega) _)⟩)
 have NL := Hi (fun w1 (h1 : w1 = wi) => newlist_any W a b c hord ts ps pt pp ct cp w1 (by rw [h1]; exact hts.below hbi) (by rw [h1]; exact hps.below hbi) hlt hlp hs hs2)
 have MN := Hi (fun e h w => must_no e h w)
 have NN := Hi (fun w => need_no 20 w)
 have NY := Hi (fun w => need_yes 20 w)
 have HROW := Hi (hrow.below hbi)
 have HPS := Hi (hps.below hbi)
 have x0 : wi.cell? ⟨w.heap.size, 0, none⟩ = some (.int .i64 a) := by rw [cell_of hoc]; rfl
 have x1 : wi.cell? ⟨w.heap.size, 1, none⟩ = some (.int .i64 b) := by rw [cell_of hoc]; rfl
 have x2 : wi.cell? ⟨w.heap.size, 2, none⟩ = some (.int .i64 c) := by rw [cell_of hoc]; rfl
 have HOC := Hi (And.intro hfc (And.intro htc hec))
 have HWI := Hi (And.intro hwi (And.intro hbi hsz))
 unfold maxLen at hlt hlp hlr
 unfold oval at *
 by_cases h0 : nlErr W a b c ts ps = 0
 case neg =>
  have HF : Hid (R = (nlErr W a b c ts ps, [], [])) := Hi (by rw [hR]; unfold overR; rw [if_pos h0])
  have H0 := Lib.hid h0
  clear hord hts hps hrow hs hs2 hQ hbi hec htc hfc hoc hsz h0 HYES hwi hR
  go_enter_defers Try.func12, Try.ntmps12
  go_upto_region 2 with fail
  rw [← HWI.out.1]
  go_wp2_with (go_at_call 22; refine (NL.out _ rfl).mono ?_; rintro e w2 (⟨h0, rfl, hb⟩ | ⟨h0, _⟩); rotate_left; exact (H0.out h0).elim; have HB2 := Lib.hid hb; clear hb h0)
  exact HNO.out _ _ _ HF.out H0.out rfl rfl rfl HB2.out
 case pos =>
  have hform : form a b c ts ps = 0 := by
   by_cases hf : form a b c ts ps = 0
   · exact hf
   · rw [nlErr_form W hf] at h0; exact h0
  have hgood := form_good hform
  have hap : ¬ Apart W (tws W ts) := by
   intro h1
   rw [nlErr_apart W hform h1] at h0; cases h0
  have hne : tws W ts ≠ [] := fun h => hap (.inl h)
  have HO := Hi (hord hgood.1)
  have htl : (tws W ts).length = ts.length := tws_length W ts
  have HWL : Hid ((tws W ts).length ≤ 200) := Hi (by have := hgood.2.1; omega)
  have HTL := Hi (tws_len W hgood.2.2.2.1)
  have HPG := Lib.hid hgood.2.2.2.2
  have HPL := Lib.hid hgood.2.2.1
  have NL2 : Hid (∀ w1, w1 = wi → Calls Try.prog 22 #[.agg #[.int .i64 a, .int .i64 b, .int .i64 c], .slice pt ts.length ct, .slice pp ps.length cp] w1 fun e w' => ∃ L p F M D xs rv pv, e = .returned (.pointer (some ⟨L, 0, none⟩)) ∧ LSt W wi.heap.size a b c L p F M w' D (tws W ts) xs rv (.slice pp ps.length cp) pv ∧ Below wi.heap.size wi w') := Hi (fun w1 h1 => by
   refine (NL.out w1 h1).mono ?_
   rintro e w' (⟨h1', _⟩ | ⟨_, L, p, F, M, D, xs, rv, pv, H, A, rfl, hl, _, _, _, hb⟩)
   · exact (h1' h0).elim
   · subst h1
     exact ⟨L, p, F, M, D, xs, rv, pv, rfl, hl, hb⟩)
  have HNE := Lib.hid hne
  by_cases hr1 : row = [] ∨ 200 < row.length
  case pos =>
   have HF : Hid (R = (20, [], [])) := Hi (by rw [hR]; unfold overR; rw [if_neg (by simp [h0]), if_pos hr1])
   clear hord hts hps hrow hs hs2 hQ hbi hec htc hfc hoc hsz h0 HYES hwi hR NL hform hgood hap hne htl
   generalize tws W ts = ws at *
   generalize hnr : row.length = nr at *
   have hq : nr = 0 ∨ 200 < nr := by
    rcases hr1 with h | h
    · left; rw [← hnr, h]; rfl
    · exact .inr h
   clear hr1 hnr
   rcases hq with rfl | hq
   · go_enter_defers Try.func12, Try.ntmps12
     go_upto_region 2 with fail
     rw [← HWI.out.1]
     go_wp2_with (first
      | (go_at_call 22; refine (NL2.out _ rfl).mono ?_; rintro e w2 ⟨L, p, F, M, D, xs, rv, pv, rfl, hl, hb⟩; have HB2 := Lib.hid hb; clear hl hb)
      | (go_at_call 24; refine (NN.out _).mono ?_; rintro r w6 ⟨rfl, rfl⟩))
     exact HNO.out _ _ _ HF.out (by decide) rfl rfl rfl HB2.out
   · have e1 : (0 : Int) < (nr : Int) := by omega
     have e2 : decide ((nr : Int) ≤ 200) = false := decide_eq_false (by omega)
     have e3 : decide (nr ≤ 200) = false := decide_eq_false (by omega)
     have e4 : 0 < nr := by omega
     clear hq
     go_enter_defers Try.func12, Try.ntmps12
     go_upto_region 2 with fail
     rw [← HWI.out.1]
     go_wp2_with (first
      | (go_at_call 22; refine (NL2.out _ rfl).mono ?_; rintro e w2 ⟨L, p, F, M, D, xs, rv, pv, rfl, hl, hb⟩; have HB2 := Lib.hid hb; clear hl hb)
      | (go_at_call 24; refine (NN.out _).mono ?_; rintro r w6 ⟨rfl, rfl⟩))
     exact HNO.out _ _ _ HF.out (by decide) rfl rfl rfl HB2.out
  case neg =>
   have hrne : row ≠ [] := fun h => hr1 (.inl h)
   have hr200 : row.length ≤ 200 := by omega
   have hr0 : 0 < row.length := by
    rcases row with _ | ⟨x, r⟩
    · exact (hrne rfl).elim
    · simp
   have HRN : Hid (rowAt W ps [] row = none ∨ rowAt W ps [] row = some [] → R = (20, [], [])) := Hi (fun h => by rw [hR]; exact overR_no a b c ts ps row h0 hr1 h)
   have HRY : Hid (∀ v, v ≠ [] → rowAt W ps [] row = some v → R = firstIn W v (tws W ts) (tws W ts)) := Hi (fun v hv h => by rw [hR]; exact overR_go a b c ts ps row h0 hr1 hv h)
   have e1 : (0 : Int) < (row.length : Int) := by omega
   have e2 : decide ((row.length : Int) ≤ 200) = true := decide_eq_true (by omega)
   have e3 : decide (row.length ≤ 200) = true := decide_eq_true hr200
   have HR2 := Lib.hid hr200
   clear hord hts hps hrow hs hs2 hQ hbi hec htc hfc hoc hsz h0 hwi hR NL hform hgood hap hne htl hrne hr1 hr200
   generalize tws W ts = ws at *
   go_enter_defers Try.func12, Try.ntmps12
   go_upto_region 2 with fail
   rw [← HWI.out.1]
   go_upto_region 4 with (first
    | (go_at_call 22; refine (NL2.out _ rfl).mono ?_; rintro e w2 ⟨L, p, F, M, D, xs, rv, pv, rfl, hl, hb⟩; have HL := Lib.hid hl; have HB2 := Lib.hid hb; clear hl hb)
    | (go_at_call 24; refine (NY.out _).mono ?_; rintro r w6 ⟨rfl, rfl⟩))
   clear NL2 x0 x1 x2
   have hxl : xs.length = ws.length := HL.out.len
   have hx0 : 0 < ws.length := List.length_pos_iff.2 HNE.out
   obtain ⟨g, cap, hrv, hrv2⟩ := owns_at HL.out.row (i := 0) (by simp; omega)
   clear hrv2
   subst hrv
   have HXL := Lib.hid hxl
   have c0 : w2.cell? ⟨L, 0, none⟩ = some (.pointer (some ⟨p, 0, none⟩)) := by rw [cell_of HL.out.head]; rfl
   have c1 : w2.cell? ⟨p, 3, none⟩ = some (.pointer (some ⟨F, 0, none⟩)) := by rw [cell_of HL.out.td.head.1]; rfl
   clear hxl hx0
   go_wp2_with fail
   clear c0 c1
   go_loopw [12, 41] (fun s12 s41 wr => ∃ (k y : Nat) (v : List (Fin 3)) (D' : Dict), s41 = .int .i64 (k : Nat) ∧ s12 = .pointer (some ⟨y, 0, none⟩) ∧ k ≤ row.length ∧ Hid (rowAt W ps [] (row.take k) = some v ∧ D' v y ∧ LSt W wi.heap.size a b c L p F M wr D' ws xs (.slice (some ⟨g, 0, none⟩) xs.length cap) (.slice pp ps.length cp) pv ∧ Below wi.heap.size wi wr)) (fun _ t _ => row.length - (intOf t).toNat)
   case atStart => exact ⟨0, F, [], D, rfl, rfl, by omega, Lib.hid ⟨by simp [rowAt], HL.out.td.root, HL.out, HB2.out⟩⟩
   case round =>
    obtain ⟨k, y, v, D', rfl, rfl, hk, HK⟩ := hrel
    by_cases hlt : k < row.length
    · obtain ⟨b0, o0, hpr, hrr⟩ := (HROW.out.below HK.out.2.2.2) (by intro h; rw [h] at hlt; simp at hlt)
      have q0 := hrr k hlt
      subst hpr
      have k1 : (k : Int) < (row.length : Int) := by omega
      have k2 : (0 : Int) ≤ (k : Int) := by omega
      have HLT := Lib.hid hlt
      have HBAD : Hid (¬ (row[k] ≠ 0 ∧ row[k] ≤ (ps.length : Int) ∧ -(ps.length : Int) ≤ row[k]) → R = (20, [], [])) := Hi (fun h => HRN.out (.inl (rowAt_none HK.out.1 hlt h)))
      have HNXT : Hid ((row[k] ≠ 0 ∧ row[k] ≤ (ps.length : Int) ∧ -(ps.length : Int) ≤ row[k]) → rowAt W ps [] (row.take (k + 1)) = some (Cox.nf W (v ++ mot ps row[k]))) := Hi (fun h => rowAt_snoc HK.out.1 hlt h)
      clear hrr
      generalize row[k] = kk at *
      clear hlt
      by_cases g1 : kk = 0
      · have HE : Hid (R = (20, [], [])) := Hi (HBAD.out (fun h => h.1 g1))
        have e5 : (kk == 0) = true := by simpa using g1
        go_wp2_with (go_at_call 24; refine (NN.out _).mono ?_; rintro r w6 ⟨rfl, rfl⟩)
        exact HNO.out _ _ _ HE.out (by decide) rfl rfl rfl HK.out.2.2.2
      have e5 : (kk == 0) = false := by simpa using g1
      have e8 : (kk != 0) = true := by simpa using g1
      by_cases g2 : kk ≤ (ps.length : Int)
      case neg =>
       have HE : Hid (R = (20, [], [])) := Hi (HBAD.out (fun h => g2 h.2.1))
       have e6 : decide (kk ≤ (ps.length : Int)) = false := decide_eq_false g2
       clear g2
       go_wp2_with (go_at_call 24; refine (NN.out _).mono ?_; rintro r w6 ⟨rfl, rfl⟩)
       exact HNO.out _ _ _ HE.out (by decide) rfl rfl rfl HK.out.2.2.2
      have e6 : decide (kk ≤ (ps.length : Int)) = true := decide_eq_true g2
      by_cases g3 : -(ps.length : Int) ≤ kk
      case neg =>
       have HE : Hid (R = (20, [], [])) := Hi (HBAD.out (fun h => g3 h.2.2))
       have e7 : decide (-(ps.length : Int) ≤ kk) = false := decide_eq_false g3
       clear g2 g3
       go_wp2_with (go_at_call 24; refine (NN.out _).mono ?_; rintro r w6 ⟨rfl, rfl⟩)
       exact HNO.out _ _ _ HE.out (by decide) rfl rfl rfl HK.out.2.2.2
      have e7 : decide (-(ps.length : Int) ≤ kk) = true := decide_eq_true g3
      have HN2 := Hi (HNXT.out ⟨g1, g2, g3⟩)
      have HG := Hi (And.intro g1 (And.intro g2 g3))
      clear g2 g3
      go_upto_region 9 with (go_at_call 24; refine (NY.out _).mono ?_; rintro r w6 ⟨rfl, rfl⟩)
      have hvl : v.length < 60000 := by
       have h1 := rowAt_len (W := W) HPG.out HK.out.1
       have h2 : (row.take k).length ≤ 200 := by rw [List.length_take]; have := HR2.out; omega
       simp only [List.length_nil] at h1
       omega
      refine over_r9 (L := L) (p := p) (y := y) (x := 0) (kk := kk) (l := mot ps kk) (Z := fun y2 w6 => ∃ D2, D2 (Cox.nf W (v ++ mot ps kk)) y2 ∧ LSt W wi.heap.size a b c L p F M w6 D2 ws xs (.slice (some ⟨g, 0, none⟩) xs.length cap) (.slice pp ps.length cp) pv ∧ Below wi.heap.size wi w6) (by rw [cell_of HK.out.2.2.1.head]; rfl)
       (fun wx hb => motion_any ((hb.block _ HK.out.2.2.1.Llt).trans HK.out.2.2.1.head) (HPS.out.below (HK.out.2.2.2.trans (hb.mono HK.out.2.2.2.size))) HPL.out kk HG.out.1 HG.out.2.1 HG.out.2.2 HPG.out)
       (fun wx hb => (lead_any W HO.out (HK.out.2.2.1.td.below hb) HK.out.2.1 (mot ps kk) (by have := mot_len HPG.out kk; omega)).mono (by
         rintro e w7 ⟨D2, y2, rfl, hd, htd, hext⟩
         exact ⟨y2, rfl, D2, hd, (HK.out.2.2.1.below hb).ext hext htd, HK.out.2.2.2.trans ((hb.mono HK.out.2.2.2.size).trans (hext.out.below (fun x hx => HK.out.2.2.1.lo.2.2.2 x hx) (by have := HK.out.2.2.2.size; have := hb.size; omega)))⟩))
       (fun y2 w6 hz => by obtain ⟨D2, _, hl, _⟩ := hz; rw [cell_of hl.head]; rfl)
       (fun y2 w6 n61 n62 n63 n64 n65 n66 n67 n68 n69 hz => ?_)
      clear q0 hvl
      obtain ⟨D2, hd2, hl2, hb2⟩ := hz
      have HD := Hi (And.intro hd2 (And.intro hl2 hb2))
      clear hd2 hl2 hb2 e5 e6 e7 e8 g1
      go_wp2_with fail
      go_roundw
      case rel => exact ⟨k + 1, y2, _, D2, by go_num, rfl, by have := HLT.out; omega, Lib.hid ⟨HN2.out, HD.out.1, HD.out.2.1, HD.out.2.2⟩⟩
      case measure =>
       have := HLT.out
       simp [intOf]; omega
    · have hke : k = row.length := by omega
      subst hke
      have k1 : ¬ (row.length : Int) < (row.length : Int) := by omega
      have HV : Hid (rowAt W ps [] row = some v) := Hi (by have := HK.out.1; rwa [List.take_length] at this)
      have c0 : wr.cell? ⟨L, 0, none⟩ = some (.pointer (some ⟨p, 0, none⟩)) := by rw [cell_of HK.out.2.2.1.head]; rfl
      have c1 : wr.cell? ⟨p, 3, none⟩ = some (.pointer (some ⟨F, 0, none⟩)) := by rw [cell_of HK.out.2.2.1.td.head.1]; rfl
      clear hlt
      by_cases hv : v = []
      · have hyF : y = F := HK.out.2.2.1.td.addr_inj (by have := HK.out.2.1; rw [hv] at this; exact this) HK.out.2.2.1.td.root
        have HE : Hid (R = (20, [], [])) := Hi (HRN.out (.inr (by rw [HV.out, hv])))
        have hq := neq_same wr y
        rw [← hyF] at c1
        clear hyF hv
        go_wp2_with (go_at_call 24; refine (NN.out _).mono ?_; rintro r w6 ⟨rfl, rfl⟩)
        exact HNO.out _ _ _ HE.out (by decide) rfl rfl rfl HK.out.2.2.2
      · have hyF : y ≠ F := fun h => hv (HK.out.2.2.1.td.word_inj HK.out.2.1 (by rw [h]; exact HK.out.2.2.1.td.root))
        obtain ⟨cs1, hcs1⟩ := HK.out.2.2.1.td.cells HK.out.2.1
        obtain ⟨cs2, hcs2⟩ := HK.out.2.2.1.td.cells HK.out.2.2.1.td.root
        have hq := neq_other wr hyF hcs1 hcs2
        have HY := Hi (HRY.out v hv HV.out)
        have c2 : wr.cell? ⟨L, 1, none⟩ = some (.slice (some ⟨g, 0, none⟩) xs.length cap) := by rw [cell_of HK.out.2.2.1.head]; rfl
        have hvl : v.length < 60000 := by
         have h1 := rowAt_len (W := W) HPG.out HV.out
         have h2 := HR2.out
         simp only [List.length_nil] at h1
         omega
        have HVL := Lib.hid hvl
        clear hcs1 hcs2 hyF hv hvl
        go_wp2_with (go_at_call 24; refine (NY.out _).mono ?_; rintro r w6 ⟨rfl, rfl⟩)
        go_loopw [86] (fun t wq => ∃ (i : Nat) (D2 : Dict), t = .int .i64 (i : Nat) ∧ i ≤ xs.length ∧ Hid ((∀ j (h : j < ws.length), j < i → Cox.nf W (v ++ ws[j]) ∉ ws) ∧ D2 v y ∧ LSt W wi.heap.size a b c L p F M wq D2 ws xs (.slice (some ⟨g, 0, none⟩) xs.length cap) (.slice pp ps.length cp) pv ∧ Below wi.heap.size wi wq)) (fun t _ => xs.length - (intOf t).toNat)
        case atStart => exact ⟨0, D', rfl, by omega, Lib.hid ⟨fun j h hj => by omega, HK.out.2.1, HK.out.2.2.1, HK.out.2.2.2⟩⟩
        case round =>
         clear hq c0 c1 c2
         have hxb : xs.length ≤ 200 := by rw [HXL.out]; exact HWL.out
         obtain ⟨i, D2, rfl, hi, HI⟩ := hrel
         by_cases hlt : i < xs.length
         · have hiw : i < ws.length := by rw [← HXL.out]; exact hlt
           obtain ⟨g', cap', hgv, hc⟩ := owns_at HI.out.2.2.1.row (i := i) (by simpa using hlt)
           have hgg : g' = g := by
            have h := congrArg Value.ownBlock hgv
            simp [Value.ownBlock] at h
            exact h.symm
           rw [hgg] at hc
           clear hgv hgg
           rw [List.getElem_map] at hc
           unfold pval at hc
           have hD := HI.out.2.2.1.at_ i hiw hlt
           have k1 : (i : Int) < (xs.length : Int) := by omega
           have k2 : (0 : Int) ≤ (i : Int) := by omega
           have HLT := Lib.hid hlt
           have HWM : Hid (ws[i] ∈ ws) := Hi (List.getElem_mem hiw)
           have HFY : Hid (Cox.nf W (v ++ ws[i]) ∈ ws → R = (0, ws[i], Cox.nf W (v ++ ws[i]))) := Hi (fun hm => by
            rw [HY.out, firstIn_skip i ws HI.out.1 (by omega), List.drop_eq_getElem_cons hiw]
            unfold firstIn
            rw [if_pos hm])
           have HFN : Hid (Cox.nf W (v ++ ws[i]) ∉ ws → ∀ j (h : j < ws.length), j < i + 1 → Cox.nf W (v ++ ws[j]) ∉ ws) := Hi (fun hm j h hj => by
            by_cases hji : j = i
            · subst hji; exact hm
            · exact HI.out.1 j h (by omega))
           have HDD := Lib.hid hD
           have HTL2 := Hi (HTL.out _ HWM.out)
           clear hD
           generalize ws[i] = t at *
           generalize xs[i] = x at *
           clear hlt hiw
           go_upto_region 15 with fail
           refine over_r15 (L := L) (p := p) (y := y) (x := x) (kk := 0) (l := t) (Z := fun y2 w6 => ∃ D3, D3 (Cox.nf W (v ++ t)) y2 ∧ D3 v y ∧ D3 t x ∧ LSt W wi.heap.size a b c L p F M w6 D3 ws xs (.slice (some ⟨g, 0, none⟩) xs.length cap) (.slice pp ps.length cp) pv ∧ Below wi.heap.size wi w6) (by rw [cell_of HI.out.2.2.1.head]; rfl)
            (fun wx hb => normal_any (HI.out.2.2.1.td.below hb) HDD.out (by have := HTL2.out; omega))
            (fun wx hb => (lead_any W HO.out (HI.out.2.2.1.td.below hb) HI.out.2.1 t (by have := HTL2.out; have := HVL.out; omega)).mono (by
              rintro e w7 ⟨D3, y2, rfl, hd, htd, hext⟩
              exact ⟨y2, rfl, D3, hd, hext.more _ _ HI.out.2.1, hext.more _ _ HDD.out, (HI.out.2.2.1.below hb).ext hext htd, HI.out.2.2.2.trans ((hb.mono HI.out.2.2.2.size).trans (hext.out.below (fun x hx => HI.out.2.2.1.lo.2.2.2 x hx) (by have := HI.out.2.2.2.size; have := hb.size; omega)))⟩))
            (fun y2 w6 hz => by obtain ⟨D3, _, _, _, hl, _⟩ := hz; rw [cell_of hl.head]; rfl)
            (fun y2 w6 n90 n91 n92 n93 n94 n95 n96 n97 hz => ?_)
           obtain ⟨D3, hd3, hv3, ht3, hl3, hb3⟩ := hz
           have HD := Hi (And.intro hd3 (And.intro hv3 (And.intro ht3 (And.intro hl3 hb3))))
           have HAS := Hi (has_any hl3 hd3)
           clear hd3 hv3 ht3 hl3 hb3 hc
           by_cases hm : Cox.nf W (v ++ t) ∈ ws
           · have HE := Hi (HFY.out hm)
             rw [decide_eq_true hm] at HAS
             have HN1 := Hi (normal_any HD.out.2.2.2.1.td HD.out.2.2.1 (by have := HTL2.out; omega))
             have HN2 := Hi (fun wx (hb : Below w6.heap.size w6 wx) => normal_any (HD.out.2.2.2.1.td.below hb) HD.out.1 (by have := HTL.out _ hm; omega))
             clear hm HFN HFY
             generalize Cox.nf W (v ++ t) = t2 at *
             go_upto_region 17 with (go_at_call 36; with_reducible refine HAS.out.mono ?_; rintro r w7 ⟨rfl, h7⟩; subst w7)
             have hb6 := HD.out.2.2.2.2
             refine over_r17 (s := wb t) (t := wb t2) (by omega) (by omega) (by omega) ((hb6.block _ (Array.getElem?_eq_some_iff.1 HOC.out.1).1).trans HOC.out.1) ((hb6.block _ (Array.getElem?_eq_some_iff.1 HOC.out.2.1).1).trans HOC.out.2.1) ((hb6.block _ (Array.getElem?_eq_some_iff.1 HOC.out.2.2).1).trans HOC.out.2.2) HN1.out HN2.out (fun w8 n101 n102 n103 n104 hb8 => ?_)
             have HB8 : Hid (Below wi.heap.size wi w8) := Hi (hb6.trans (hb8.mono hb6.size))
             clear hb6 hb8
             go_wp2_with fail
             exact HYES.out _ _ _ _ HE.out rfl rfl rfl HB8.out
           · rw [decide_eq_false hm] at HAS
             have HFN2 := Hi (HFN.out hm)
             clear hm HFN HFY
             go_wp2_with (go_at_call 36; with_reducible refine HAS.out.mono ?_; rintro r w7 ⟨rfl, h7⟩; subst w7)
             go_roundw
             case rel => exact ⟨i + 1, D3, by go_num, by have := HLT.out; omega, Lib.hid ⟨HFN2.out, HD.out.2.1, HD.out.2.2.2.1, HD.out.2.2.2.2⟩⟩
             case measure =>
              have := HLT.out
              simp [intOf]; omega
         · have hie : i = xs.length := by omega
           subst hie
           have k1 : ¬ (xs.length : Int) < (xs.length : Int) := by omega
           have HE : Hid (R = (20, [], [])) := Hi (by
            rw [HY.out, firstIn_skip xs.length ws HI.out.1 (by rw [HXL.out]; exact Nat.le_refl _), HXL.out, List.drop_length]
            rfl)
           have hpn : ∀ (v : Value) (w : World), (Instr.panic (.iface 99 v)).run Try.prog w = .halt (.panic (.iface 99 v)) w := fun _ _ => rfl
           clear hlt
           go_wp2_with fail
           exact HNO.out _ _ _ HE.out (by decide) rfl rfl rfl HI.out.2.2.2
end Go.Proofs.Ytkndmibmmoikbaa
namespace Go.Proofs.Ytkndmibmmoikbaa
open Go.RowKit
open Cox (Tl)
noncomputable def stepsR11 : Code := (Try.f11.body.bind (onlyR 11)).getD .skip
noncomputable def stepsR12 : Code := (Try.f11.body.bind (onlyR 12)).getD .skip
theorem steps_r11_1 {Q : Exit → Act → World → Prop} {p b1 : Nat} {l : List (Fin 3)} {at_ si sj : Int} {s : ByteArray} {bb : Bool} {e8 : Value} {ds : List Deferred} {wz : World} (hc : wz.heap[b1]? = some (.cells #[.int .i64 1, .int .i64 at_, .int .i64 si, .int .i64 sj] 43 (0, 0)))
 (rc : ∀ wx, Below wz.heap.size wz wx → Calls Try.prog 55 #[.pointer (some ⟨p, 0, none⟩), .string (wb l), .agg #[.int .i64 1, .int .i64 at_, .int .i64 si, .int .i64 sj]] wx fun e w' => e = .returned (.tuple #[.string s, .bool bb]) ∧ Below wx.heap.size wx w')
 {u0 u2 u3 u4 u5 u6 u7 u10 u12 u13 u14 u15 u16 u17 u18 u19 u20 u21 u22 u23 u24 u25 u26 u27 u28 u29 u30 u31 u32 u33 u34 u35 u36 u37 u38 u39 u40 u41 u42 u43 u44 u45 u46 u47 u48 u49 u50 u51 u52 u53 u54 u55 u56 u57 u58 u59 u60 u61 u62 u63 u64 u65 u66 u67 u68 u69 u70 u71 u72 u73 u74 u75 u76 u77 u78 u79 u80 u81 u82 u83 u84 : Value}
 (hN : ∀ w6 (n60 n61 n62 n63 n64 n65 n66 n67 n68 n69 n70 n71 : Value), Below wz.heap.size wz w6 → Q .normal ⟨#[u0, .string (wb l), u2, u3, u4, u5, u6, u7, e8, .pointer (some ⟨p, 0, none⟩), u10, .pointer (some ⟨b1, 0, none⟩), .string s, .bool bb, u14, u15, u16, u17, u18, u19, u20, u21, u22, u23, u24, u25, u26, u27, u28, u29, u30, u31, u32, u33, u34, u35, u36, u37, u38, u39, u40, u41, u42, u43, u44, u45, u46, u47, u48, u49, u50, u51, u52, u53, u54, u55, u56, u57, u58, u59, n60, n61, n62, n63, n64, n65, n66, n67, n68, n69, n70, n71, u72, u73, u74, u75, u76, u77, u78, u79, u80, u81, u82, u83, u84], ds⟩ w6) :
 Code.wp Try.prog stepsR11 Q ⟨#[u0, .string (wb l), u2, u3, u4, u5, u6, u7, e8, .pointer (some ⟨p, 0, none⟩), u10, .pointer (some ⟨b1, 0, none⟩), u12, u13, u14, u15, u16, u17, u18, u19, u20, u21, u22, u23, u24, u25, u26, u27, u28, u29, u30, u31, u32, u33, u34, u35, u36, u37, u38, u39, u40, u41, u42, u43, u44, u45, u46, u47, u48, u49, u50, u51, u52, u53, u54, u55, u56, u57, u58, u59, u60, u61, u62, u63, u64, u65, u66, u67, u68, u69, u70, u71, u72, u73, u74, u75, u76, u77, u78, u79, u80, u81, u82, u83, u84], ds⟩ wz := by
 have HN := Lib.hid hN
 clear hN
 conv => arg 2; whnf
 have d0 : wz.drew.cell? ⟨b1, 0, none⟩ = some (.int .i64 1) := by rw [cell_drew_own, cell_of hc]; rfl
 have d1 : wz.drew.cell? ⟨b1, 1, none⟩ = some (.int .i64 at_) := by rw [cell_drew_own, cell_of hc]; rfl
 have d2 : wz.drew.cell? ⟨b1, 2, none⟩ = some (.int .i64 si) := by rw [cell_drew_own, cell_of hc]; rfl
 have d3 : wz.drew.cell? ⟨b1, 3, none⟩ = some (.int .i64 sj) := by rw [cell_drew_own, cell_of hc]; rfl
 have hix : ∀ w, (Instr.index 90 (.agg #[.nilFunc, .func (.func 55) #[] #[], .func (.func 58) #[] #[], .func (.func 59) #[] #[]]) (.int .i64 1)).run Try.prog w = .ok (.agg #[.func (.func 55) #[] #[]]) w := fun w => by kernel_rfl
 have hfx : ∀ w, (Instr.field 89 (.agg #[.func (.func 55) #[] #[]]) 0).run Try.prog w = .ok (.func (.func 55) #[] #[]) w := fun w => by kernel_rfl
 have RC : Hid (∀ wx, Below wz.drew.heap.size wz.drew wx → _) := Hi (fun wx hb => rc wx (((Below.refl _ wz).drew).trans hb))
 clear rc hc
 refine region_calm ?_
 refine wp_region_held_drew (S := fun w' => w'.cell? ⟨b1, 0, none⟩ = some (.int .i64 1) ∧ w'.cell? ⟨b1, 1, none⟩ = some (.int .i64 at_) ∧ w'.cell? ⟨b1, 2, none⟩ = some (.int .i64 si) ∧ w'.cell? ⟨b1, 3, none⟩ = some (.int .i64 sj)) (by kernel_rfl) (⟨d0, d1, d2, d3⟩) (fun hHeld => ?_)
 refine ty 1 hHeld ?_
 try simp only [ly]
 refine ty 2 hHeld ?_
 try simp only [ly]
 refine ty 5 hHeld ?_
 try simp only [ly]
 refine ty 6 hHeld ?_
 try simp only [ly]
 refine ty 7 hHeld ?_
 try simp only [ly]
 refine take_step (i := 0) rfl (by kernel_rfl) (fun K' hK => ?_)
 go_simp
 go_at_call 31
 refine (makers_any _).mono ?_
 rintro r w5 ⟨rfl, hb5⟩
 have HB5 := Lib.hid hb5
 obtain ⟨y0, y1, y2, y3⟩ := hHeld
 have g0 := cell_stays hb5 y0
 have g1 := cell_stays hb5 y1
 have g2 := cell_stays hb5 y2
 have g3 := cell_stays hb5 y3
 clear y0 y1 y2 y3 hb5
 refine hK.out _ _ (⟨g0, g1, g2, g3⟩) (fun hHeld => ?_)
 clear hK K'
 try simp only [ly]
 refine ty 3 hHeld ?_
 try simp only [ly]
 refine ty 4 hHeld ?_
 try simp only [ly]
 refine take_step (i := 8) rfl (by kernel_rfl) (fun K' hK => ?_)
 go_simp
 go_at_call 55
 refine (RC.out _ HB5.out).mono ?_
 rintro r w6 ⟨rfl, hb6⟩
 have HB6 := Lib.hid hb6
 obtain ⟨y0, y1, y2, y3⟩ := hHeld
 have g0 := cell_stays hb6 y0
 have g1 := cell_stays hb6 y1
 have g2 := cell_stays hb6 y2
 have g3 := cell_stays hb6 y3
 clear y0 y1 y2 y3 hb6
 refine hK.out _ _ (⟨g0, g1, g2, g3⟩) (fun hHeld => ?_)
 clear hK K'
 try simp only [ly]
 refine ty 9 hHeld ?_
 try simp only [ly]
 refine ty 10 hHeld ?_
 try simp only [ly]
 refine ty 11 hHeld ?_
 try simp only [ly]
 refine ty 12 hHeld ?_
 try simp only [ly]
 refine ty 13 hHeld ?_
 try simp only [ly]
 refine wpAnyH_done (by kernel_rfl) ?_ _
 refine ⟨rfl, ?_⟩
 exact HN.out _ _ _ _ _ _ _ _ _ _ _ _ _ (((Below.refl _ wz).drew).trans ((HB5.out.trans (HB6.out.mono HB5.out.size))))
theorem steps_r11_2 {Q : Exit → Act → World → Prop} {p b1 : Nat} {l : List (Fin 3)} {at_ si sj : Int} {s : ByteArray} {bb : Bool} {e8 : Value} {ds : List Deferred} {wz : World} (hc : wz.heap[b1]? = some (.cells #[.int .i64 2, .int .i64 at_, .int .i64 si, .int .i64 sj] 43 (0, 0)))
 (rc : ∀ wx, Below wz.heap.size wz wx → Calls Try.prog 58 #[.pointer (some ⟨p, 0, none⟩), .string (wb l), .agg #[.int .i64 2, .int .i64 at_, .int .i64 si, .int .i64 sj]] wx fun e w' => e = .returned (.tuple #[.string s, .bool bb]) ∧ Below wx.heap.size wx w')
 {u0 u2 u3 u4 u5 u6 u7 u10 u12 u13 u14 u15 u16 u17 u18 u19 u20 u21 u22 u23 u24 u25 u26 u27 u28 u29 u30 u31 u32 u33 u34 u35 u36 u37 u38 u39 u40 u41 u42 u43 u44 u45 u46 u47 u48 u49 u50 u51 u52 u53 u54 u55 u56 u57 u58 u59 u60 u61 u62 u63 u64 u65 u66 u67 u68 u69 u70 u71 u72 u73 u74 u75 u76 u77 u78 u79 u80 u81 u82 u83 u84 : Value}
 (hN : ∀ w6 (n60 n61 n62 n63 n64 n65 n66 n67 n68 n69 n70 n71 : Value), Below wz.heap.size wz w6 → Q .normal ⟨#[u0, .string (wb l), u2, u3, u4, u5, u6, u7, e8, .pointer (some ⟨p, 0, none⟩), u10, .pointer (some ⟨b1, 0, none⟩), .string s, .bool bb, u14, u15, u16, u17, u18, u19, u20, u21, u22, u23, u24, u25, u26, u27, u28, u29, u30, u31, u32, u33, u34, u35, u36, u37, u38, u39, u40, u41, u42, u43, u44, u45, u46, u47, u48, u49, u50, u51, u52, u53, u54, u55, u56, u57, u58, u59, n60, n61, n62, n63, n64, n65, n66, n67, n68, n69, n70, n71, u72, u73, u74, u75, u76, u77, u78, u79, u80, u81, u82, u83, u84], ds⟩ w6) :
 Code.wp Try.prog stepsR11 Q ⟨#[u0, .string (wb l), u2, u3, u4, u5, u6, u7, e8, .pointer (some ⟨p, 0, none⟩), u10, .pointer (some ⟨b1, 0, none⟩), u12, u13, u14, u15, u16, u17, u18, u19, u20, u21, u22, u23, u24, u25, u26, u27, u28, u29, u30, u31, u32, u33, u34, u35, u36, u37, u38, u39, u40, u41, u42, u43, u44, u45, u46, u47, u48, u49, u50, u51, u52, u53, u54, u55, u56, u57, u58, u59, u60, u61, u62, u63, u64, u65, u66, u67, u68, u69, u70, u71, u72, u73, u74, u75, u76, u77, u78, u79, u80, u81, u82, u83, u84], ds⟩ wz := by
 have HN := Lib.hid hN
 clear hN
 conv => arg 2; whnf
 have d0 : wz.drew.cell? ⟨b1, 0, none⟩ = some (.int .i64 2) := by rw [cell_drew_own, cell_of hc]; rfl
 have d1 : wz.drew.cell? ⟨b1, 1, none⟩ = some (.int .i64 at_) := by rw [cell_drew_own, cell_of hc]; rfl
 have d2 : wz.drew.cell? ⟨b1, 2, none⟩ = some (.int .i64 si) := by rw [cell_drew_own, cell_of hc]; rfl
 have d3 : wz.drew.cell? ⟨b1, 3, none⟩ = some (.int .i64 sj) := by rw [cell_drew_own, cell_of hc]; rfl
 have hix : ∀ w, (Instr.index 90 (.agg #[.nilFunc, .func (.func 55) #[] #[], .func (.func 58) #[] #[], .func (.func 59) #[] #[]]) (.int .i64 2)).run Try.prog w = .ok (.agg #[.func (.func 58) #[] #[]]) w := fun w => by kernel_rfl
 have hfx : ∀ w, (Instr.field 89 (.agg #[.func (.func 58) #[] #[]]) 0).run Try.prog w = .ok (.func (.func 58) #[] #[]) w := fun w => by kernel_rfl
 have RC : Hid (∀ wx, Below wz.drew.heap.size wz.drew wx → _) := Hi (fun wx hb => rc wx (((Below.refl _ wz).drew).trans hb))
 clear rc hc
 refine region_calm ?_
 refine wp_region_held_drew (S := fun w' => w'.cell? ⟨b1, 0, none⟩ = some (.int .i64 2) ∧ w'.cell? ⟨b1, 1, none⟩ = some (.int .i64 at_) ∧ w'.cell? ⟨b1, 2, none⟩ = some (.int .i64 si) ∧ w'.cell? ⟨b1, 3, none⟩ = some (.int .i64 sj)) (by kernel_rfl) (⟨d0, d1, d2, d3⟩) (fun hHeld => ?_)
 refine ty 1 hHeld ?_
 try simp only [ly]
 refine ty 2 hHeld ?_
 try simp only [ly]
 refine ty 5 hHeld ?_
 try simp only [ly]
 refine ty 6 hHeld ?_
 try simp only [ly]
 refine ty 7 hHeld ?_
 try simp only [ly]
 refine take_step (i := 0) rfl (by kernel_rfl) (fun K' hK => ?_)
 go_simp
 go_at_call 31
 refine (makers_any _).mono ?_
 rintro r w5 ⟨rfl, hb5⟩
 have HB5 := Lib.hid hb5
 obtain ⟨y0, y1, y2, y3⟩ := hHeld
 have g0 := cell_stays hb5 y0
 have g1 := cell_stays hb5 y1
 have g2 := cell_stays hb5 y2
 have g3 := cell_stays hb5 y3
 clear y0 y1 y2 y3 hb5
 refine hK.out _ _ (⟨g0, g1, g2, g3⟩) (fun hHeld => ?_)
 clear hK K'
 try simp only [ly]
 refine ty 3 hHeld ?_
 try simp only [ly]
 refine ty 4 hHeld ?_
 try simp only [ly]
 refine take_step (i := 8) rfl (by kernel_rfl) (fun K' hK => ?_)
 go_simp
 go_at_call 58
 refine (RC.out _ HB5.out).mono ?_
 rintro r w6 ⟨rfl, hb6⟩
 have HB6 := Lib.hid hb6
 obtain ⟨y0, y1, y2, y3⟩ := hHeld
 have g0 := cell_stays hb6 y0
 have g1 := cell_stays hb6 y1
 have g2 := cell_stays hb6 y2
 have g3 := cell_stays hb6 y3
 clear y0 y1 y2 y3 hb6
 refine hK.out _ _ (⟨g0, g1, g2, g3⟩) (fun hHeld => ?_)
 clear hK K'
 try simp only [ly]
 refine ty 9 hHeld ?_
 try simp only [ly]
 refine ty 10 hHeld ?_
 try simp only [ly]
 refine ty 11 hHeld ?_
 try simp only [ly]
 refine ty 12 hHeld ?_
 try simp only [ly]
 refine ty 13 hHeld ?_
 try simp only [ly]
 refine wpAnyH_done (by kernel_rfl) ?_ _
 refine ⟨rfl, ?_⟩
 exact HN.out _ _ _ _ _ _ _ _ _ _ _ _ _ (((Below.refl _ wz).drew).trans ((HB5.out.trans (HB6.out.mono HB5.out.size))))
theorem steps_r11_3 {Q : Exit → Act → World → Prop} {p b1 : Nat} {l : List (Fin 3)} {at_ si sj : Int} {s : ByteArray} {bb : Bool} {e8 : Value} {ds : List Deferred} {wz : World} (hc : wz.heap[b1]? = some (.cells #[.int .i64 3, .int .i64 at_, .int .i64 si, .int .i64 sj] 43 (0, 0)))
 (rc : ∀ wx, Below wz.heap.size wz wx → Calls Try.prog 59 #[.pointer (some ⟨p, 0, none⟩), .string (wb l), .agg #[.int .i64 3, .int .i64 at_, .int .i64 si, .int .i64 sj]] wx fun e w' => e = .returned (.tuple #[.string s, .bool bb]) ∧ Below wx.heap.size wx w')
 {u0 u2 u3 u4 u5 u6 u7 u10 u12 u13 u14 u15 u16 u17 u18 u19 u20 u21 u22 u23 u24 u25 u26 u27 u28 u29 u30 u31 u32 u33 u34 u35 u36 u37 u38 u39 u40 u41 u42 u43 u44 u45 u46 u47 u48 u49 u50 u51 u52 u53 u54 u55 u56 u57 u58 u59 u60 u61 u62 u63 u64 u65 u66 u67 u68 u69 u70 u71 u72 u73 u74 u75 u76 u77 u78 u79 u80 u81 u82 u83 u84 : Value}
 (hN : ∀ w6 (n60 n61 n62 n63 n64 n65 n66 n67 n68 n69 n70 n71 : Value), Below wz.heap.size wz w6 → Q .normal ⟨#[u0, .string (wb l), u2, u3, u4, u5, u6, u7, e8, .pointer (some ⟨p, 0, none⟩), u10, .pointer (some ⟨b1, 0, none⟩), .string s, .bool bb, u14, u15, u16, u17, u18, u19, u20, u21, u22, u23, u24, u25, u26, u27, u28, u29, u30, u31, u32, u33, u34, u35, u36, u37, u38, u39, u40, u41, u42, u43, u44, u45, u46, u47, u48, u49, u50, u51, u52, u53, u54, u55, u56, u57, u58, u59, n60, n61, n62, n63, n64, n65, n66, n67, n68, n69, n70, n71, u72, u73, u74, u75, u76, u77, u78, u79, u80, u81, u82, u83, u84], ds⟩ w6) :
 Code.wp Try.prog stepsR11 Q ⟨#[u0, .string (wb l), u2, u3, u4, u5, u6, u7, e8, .pointer (some ⟨p, 0, none⟩), u10, .pointer (some ⟨b1, 0, none⟩), u12, u13, u14, u15, u16, u17, u18, u19, u20, u21, u22, u23, u24, u25, u26, u27, u28, u29, u30, u31, u32, u33, u34, u35, u36, u37, u38, u39, u40, u41, u42, u43, u44, u45, u46, u47, u48, u49, u50, u51, u52, u53, u54, u55, u56, u57, u58, u59, u60, u61, u62, u63, u64, u65, u66, u67, u68, u69, u70, u71, u72, u73, u74, u75, u76, u77, u78, u79, u80, u81, u82, u83, u84], ds⟩ wz := by
 have HN := Lib.hid hN
 clear hN
 conv => arg 2; whnf
 have d0 : wz.drew.cell? ⟨b1, 0, none⟩ = some (.int .i64 3) := by rw [cell_drew_own, cell_of hc]; rfl
 have d1 : wz.drew.cell? ⟨b1, 1, none⟩ = some (.int .i64 at_) := by rw [cell_drew_own, cell_of hc]; rfl
 have d2 : wz.drew.cell? ⟨b1, 2, none⟩ = some (.int .i64 si) := by rw [cell_drew_own, cell_of hc]; rfl
 have d3 : wz.drew.cell? ⟨b1, 3, none⟩ = some (.int .i64 sj) := by rw [cell_drew_own, cell_of hc]; rfl
 have hix : ∀ w, (Instr.index 90 (.agg #[.nilFunc, .func (.func 55) #[] #[], .func (.func 58) #[] #[], .func (.func 59) #[] #[]]) (.int .i64 3)).run Try.prog w = .ok (.agg #[.func (.func 59) #[] #[]]) w := fun w => by kernel_rfl
 have hfx : ∀ w, (Instr.field 89 (.agg #[.func (.func 59) #[] #[]]) 0).run Try.prog w = .ok (.func (.func 59) #[] #[]) w := fun w => by kernel_rfl
 have RC : Hid (∀ wx, Below wz.drew.heap.size wz.drew wx → _) := Hi (fun wx hb => rc wx (((Below.refl _ wz).drew).trans hb))
 clear rc hc
 refine region_calm ?_
 refine wp_region_held_drew (S := fun w' => w'.cell? ⟨b1, 0, none⟩ = some (.int .i64 3) ∧ w'.cell? ⟨b1, 1, none⟩ = some (.int .i64 at_) ∧ w'.cell? ⟨b1, 2, none⟩ = some (.int .i64 si) ∧ w'.cell? ⟨b1, 3, none⟩ = some (.int .i64 sj)) (by kernel_rfl) (⟨d0, d1, d2, d3⟩) (fun hHeld => ?_)
 refine ty 1 hHeld ?_
 try simp only [ly]
 refine ty 2 hHeld ?_
 try simp only [ly]
 refine ty 5 hHeld ?_
 try simp only [ly]
 refine ty 6 hHeld ?_
 try simp only [ly]
 refine ty 7 hHeld ?_
 try simp only [ly]
 refine take_step (i := 0) rfl (by kernel_rfl) (fun K' hK => ?_)
 go_simp
 go_at_call 31
 refine (makers_any _).mono ?_
 rintro r w5 ⟨rfl, hb5⟩
 have HB5 := Lib.hid hb5
 obtain ⟨y0, y1, y2, y3⟩ := hHeld
 have g0 := cell_stays hb5 y0
 have g1 := cell_stays hb5 y1
 have g2 := cell_stays hb5 y2
 have g3 := cell_stays hb5 y3
 clear y0 y1 y2 y3 hb5
 refine hK.out _ _ (⟨g0, g1, g2, g3⟩) (fun hHeld => ?_)
 clear hK K'
 try simp only [ly]
 refine ty 3 hHeld ?_
 try simp only [ly]
 refine ty 4 hHeld ?_
 try simp only [ly]
 refine take_step (i := 8) rfl (by kernel_rfl) (fun K' hK => ?_)
 go_simp
 go_at_call 59
 refine (RC.out _ HB5.out).mono ?_
 rintro r w6 ⟨rfl, hb6⟩
 have HB6 := Lib.hid hb6
 obtain ⟨y0, y1, y2, y3⟩ := hHeld
 have g0 := cell_stays hb6 y0
 have g1 := cell_stays hb6 y1
 have g2 := cell_stays hb6 y2
 have g3 := cell_stays hb6 y3
 clear y0 y1 y2 y3 hb6
 refine hK.out _ _ (⟨g0, g1, g2, g3⟩) (fun hHeld => ?_)
 clear hK K'
 try simp only [ly]
 refine ty 9 hHeld ?_
 try simp only [ly]
 refine ty 10 hHeld ?_
 try simp only [ly]
 refine ty 11 hHeld ?_
 try simp only [ly]
 refine ty 12 hHeld ?_
 try simp only [ly]
 refine ty 13 hHeld ?_
 try simp only [ly]
 refine wpAnyH_done (by kernel_rfl) ?_ _
 refine ⟨rfl, ?_⟩
 exact HN.out _ _ _ _ _ _ _ _ _ _ _ _ _ (((Below.refl _ wz).drew).trans ((HB5.out.trans (HB6.out.mono HB5.out.size))))
end Go.Proofs.Ytkndmibmmoikbaa
namespace Go.Proofs.Ytkndmibmmoikbaa
open Go.RowKit
open Cox (Tl)
theorem steps_r12_none {Q : Exit → Act → World → Prop} {s : ByteArray} {e8 v9 : Value} {ds : List Deferred} {wz : World} {u0 u1 u2 u3 u4 u5 u6 u7 u10 u11 u14 u15 u16 u17 u18 u19 u20 u21 u22 u23 u24 u25 u26 u27 u28 u29 u30 u31 u32 u33 u34 u35 u36 u37 u38 u39 u40 u41 u42 u43 u44 u45 u46 u47 u48 u49 u50 u51 u52 u53 u54 u55 u56 u57 u58 u59 u60 u61 u62 u63 u64 u65 u66 u67 u68 u69 u70 u71 u72 u73 u74 u75 u76 u77 u78 u79 u80 u81 u82 u83 u84 : Value}
 (hN : ∀ (n72 n73 n74 n75 n76 n77 n78 : Value), Q (.panic (refusal 20)) ⟨#[u0, u1, u2, u3, u4, u5, u6, u7, e8, v9, u10, u11, .string s, .bool false, u14, u15, u16, u17, u18, u19, u20, u21, u22, u23, u24, u25, u26, u27, u28, u29, u30, u31, u32, u33, u34, u35, u36, u37, u38, u39, u40, u41, u42, u43, u44, u45, u46, u47, u48, u49, u50, u51, u52, u53, u54, u55, u56, u57, u58, u59, u60, u61, u62, u63, u64, u65, u66, u67, u68, u69, u70, u71, n72, n73, n74, n75, n76, n77, n78, u79, u80, u81, u82, u83, u84], ds⟩ wz) :
 Code.wp Try.prog stepsR12 Q ⟨#[u0, u1, u2, u3, u4, u5, u6, u7, e8, v9, u10, u11, .string s, .bool false, u14, u15, u16, u17, u18, u19, u20, u21, u22, u23, u24, u25, u26, u27, u28, u29, u30, u31, u32, u33, u34, u35, u36, u37, u38, u39, u40, u41, u42, u43, u44, u45, u46, u47, u48, u49, u50, u51, u52, u53, u54, u55, u56, u57, u58, u59, u60, u61, u62, u63, u64, u65, u66, u67, u68, u69, u70, u71, u72, u73, u74, u75, u76, u77, u78, u79, u80, u81, u82, u83, u84], ds⟩ wz := by
 have HN := Lib.hid hN
 clear hN
 have ND := Hi (fun w => need_no 20 w)
 conv => arg 2; whnf
 go_wp2_with (go_at_call 24; refine (ND.out _).mono ?_; rintro r w7 ⟨rfl, rfl⟩)
 all_goals first | (exact HN.out _ _ _ _ _ _ _) | (refine ⟨_, ?_⟩; exact HN.out _ _ _ _ _ _ _)
theorem steps_r12_long {Q : Exit → Act → World → Prop} {s : ByteArray} {e8 v9 : Value} {ds : List Deferred} {wz : World} (hs : ¬ s.size ≤ 200) {u0 u1 u2 u3 u4 u5 u6 u7 u10 u11 u14 u15 u16 u17 u18 u19 u20 u21 u22 u23 u24 u25 u26 u27 u28 u29 u30 u31 u32 u33 u34 u35 u36 u37 u38 u39 u40 u41 u42 u43 u44 u45 u46 u47 u48 u49 u50 u51 u52 u53 u54 u55 u56 u57 u58 u59 u60 u61 u62 u63 u64 u65 u66 u67 u68 u69 u70 u71 u72 u73 u74 u75 u76 u77 u78 u79 u80 u81 u82 u83 u84 : Value}
 (hN : ∀ (n72 n73 n74 n75 n76 n77 n78 : Value), Q (.panic (refusal 20)) ⟨#[u0, u1, u2, u3, u4, u5, u6, u7, e8, v9, u10, u11, .string s, .bool true, u14, u15, u16, u17, u18, u19, u20, u21, u22, u23, u24, u25, u26, u27, u28, u29, u30, u31, u32, u33, u34, u35, u36, u37, u38, u39, u40, u41, u42, u43, u44, u45, u46, u47, u48, u49, u50, u51, u52, u53, u54, u55, u56, u57, u58, u59, u60, u61, u62, u63, u64, u65, u66, u67, u68, u69, u70, u71, n72, n73, n74, n75, n76, n77, n78, u79, u80, u81, u82, u83, u84], ds⟩ wz) :
 Code.wp Try.prog stepsR12 Q ⟨#[u0, u1, u2, u3, u4, u5, u6, u7, e8, v9, u10, u11, .string s, .bool true, u14, u15, u16, u17, u18, u19, u20, u21, u22, u23, u24, u25, u26, u27, u28, u29, u30, u31, u32, u33, u34, u35, u36, u37, u38, u39, u40, u41, u42, u43, u44, u45, u46, u47, u48, u49, u50, u51, u52, u53, u54, u55, u56, u57, u58, u59, u60, u61, u62, u63, u64, u65, u66, u67, u68, u69, u70, u71, u72, u73, u74, u75, u76, u77, u78, u79, u80, u81, u82, u83, u84], ds⟩ wz := by
 have HN := Lib.hid hN
 clear hN
 have e9 : decide (s.size ≤ 200) = false := decide_eq_false hs
 have e8 : decide ((s.size : Int) ≤ 200) = false := decide_eq_false (by omega)
 have ND := Hi (fun w => need_no 20 w)
 conv => arg 2; whnf
 go_wp2_with (go_at_call 24; refine (ND.out _).mono ?_; rintro r w7 ⟨rfl, rfl⟩)
 all_goals first | (exact HN.out _ _ _ _ _ _ _) | (refine ⟨_, ?_⟩; exact HN.out _ _ _ _ _ _ _)
theorem steps_r12_yes {Q : Exit → Act → World → Prop} {s : ByteArray} {e8 v9 : Value} {ds : List Deferred} {wz : World} (hs : s.size ≤ 200) {u0 u1 u2 u3 u4 u5 u6 u7 u10 u11 u14 u15 u16 u17 u18 u19 u20 u21 u22 u23 u24 u25 u26 u27 u28 u29 u30 u31 u32 u33 u34 u35 u36 u37 u38 u39 u40 u41 u42 u43 u44 u45 u46 u47 u48 u49 u50 u51 u52 u53 u54 u55 u56 u57 u58 u59 u60 u61 u62 u63 u64 u65 u66 u67 u68 u69 u70 u71 u72 u73 u74 u75 u76 u77 u78 u79 u80 u81 u82 u83 u84 : Value}
 (hN : ∀ (n72 n73 n74 n75 n76 n77 n78 : Value), Q .normal ⟨#[u0, u1, u2, u3, u4, u5, u6, u7, e8, v9, u10, u11, .string s, .bool true, u14, u15, u16, u17, u18, u19, u20, u21, u22, u23, u24, u25, u26, u27, u28, u29, u30, u31, u32, u33, u34, u35, u36, u37, u38, u39, u40, u41, u42, u43, u44, u45, u46, u47, u48, u49, u50, u51, u52, u53, u54, u55, u56, u57, u58, u59, u60, u61, u62, u63, u64, u65, u66, u67, u68, u69, u70, u71, n72, n73, n74, n75, n76, n77, n78, u79, u80, u81, u82, u83, u84], ds⟩ wz) :
 Code.wp Try.prog stepsR12 Q ⟨#[u0, u1, u2, u3, u4, u5, u6, u7, e8, v9, u10, u11, .string s, .bool true, u14, u15, u16, u17, u18, u19, u20, u21, u22, u23, u24, u25, u26, u27, u28, u29, u30, u31, u32, u33, u34, u35, u36, u37, u38, u39, u40, u41, u42, u43, u44, u45, u46, u47, u48, u49, u50, u51, u52, u53, u54, u55, u56, u57, u58, u59, u60, u61, u62, u63, u64, u65, u66, u67, u68, u69, u70, u71, u72, u73, u74, u75, u76, u77, u78, u79, u80, u81, u82, u83, u84], ds⟩ wz := by
 have HN := Lib.hid hN
 clear hN
 have e9 : decide (s.size ≤ 200) = true := decide_eq_true hs
 have e8 : decide ((s.size : Int) ≤ 200) = true := decide_eq_true (by omega)
 have ND := Hi (fun w => need_yes 20 w)
 conv => arg 2; whnf
 go_wp2_with (go_at_call 24; refine (ND.out _).mono ?_; rintro r w7 ⟨rfl, rfl⟩)
 all_goals first | (exact HN.out _ _ _ _ _ _ _) | (refine ⟨_, ?_⟩; exact HN.out _ _ _ _ _ _ _)
end Go.Proofs.Ytkndmibmmoikbaa
