import Derived.Test.YtlhmfaelkkiahaaWords7
import Derived.RecoverIn
import Derived.LaidEqlPtr
namespace Go.Proofs.Ytlhmfaelkkiahaa
open Go.RowKit
open Cox (Tl)
attribute [local go_sem] Oper.semAt_some

theorem caught_idle_in (F : Fence) (n : Nat) (hF : F.fn 25) (hro : F.round = none) (p : Addr) (w : World) :
    CallsDIn F n Try.prog 25 #[.pointer (some p)] .returning w fun e u' w' => e = .returned (.tuple #[]) ∧ u' = .returning ∧ w' = w := by
  have hta : ∀ w, (Instr.typeAssert .nilIface 20 68 true).run Try.prog w = .ok (.tuple #[.int .i64 0, .bool false]) w := fun w => by kernel_rfl
  refine callsDIn_of_wpSIn Try.func25 rfl hF fun c₀ cs hu => ?_
  apply wpSIn_seq
  apply wpSIn_region
  simp [wpOpsSIn, go_sem, recoverD, hu, Try.ntmps25, Exit.thenS, hta]
  apply wpSIn_seq
  apply wpSIn_region
  simp [wpOpsSIn, go_sem, Exit.thenS]
  refine wpSIn_cond (t := false) (by simp [Act.eval, Array.replicate]) ?_
  simp only [Bool.false_eq_true, if_false]
  refine wpSIn_of_wpIn hro (wpIn_skip ?_)
  cases c₀
  simp_all [bodyPostS, results, Try.results25]

section
variable {K : Type} [Cox.OR K]

/-- a power's tile is the first one if, and only if, the word is empty -/
theorem AtPow.home {w0 : World} {T : Cox.Tri K} {a b c p F B4 B5 BP B52 B9 : Nat} {l : List (Fin 3)} {k m bt : Nat} {w : World} (h : AtPow w0 T a b c p F B4 B5 BP B52 B9 l k m bt w) : (bt == F) = (Cox.nf T (lpow l k)).isEmpty := by
  obtain ⟨h1, h2, ⟨A, st, P, y, h3, h4, h5⟩, h6⟩ := h
  obtain ⟨h7, nd, h8, h9⟩ := h4
  have hy := (List.getElem?_eq_some_iff.1 h8).1
  by_cases e : Cox.nf T (lpow l k) = []
  · rw [e] at h9
    have := h3.ok.root y nd h7 h8 h9
    subst this
    rw [h5, h3.first, e]; simp
  · have : (Cox.nf T (lpow l k)).isEmpty = false := by simpa using e
    rw [this]
    simp only [beq_eq_false_iff_ne, ne_eq]
    rintro rfl
    have hz := h3.rep.inj y 0 hy (by omega) (by rw [← h5, h3.first])
    subst hz
    obtain ⟨_, nd0, g1, g2⟩ := h3.root
    rw [h8] at g1
    cases g1
    rw [h9] at g2
    exact e g2

/-- the order of a word, up to 12; 0 if there is none -/
noncomputable def ordr (T : Cox.Tri K) (l : List (Fin 3)) : Nat := ((List.range' 1 12).find? fun k => (Cox.nf T (lpow l k)).isEmpty).getD 0
theorem ordr_at {T : Cox.Tri K} {l : List (Fin 3)} {k : Nat} (h1 : 1 ≤ k) (h2 : k ≤ 12) (h3 : Cox.nf T (lpow l k) = []) (h4 : ∀ j, 1 ≤ j → j < k → Cox.nf T (lpow l j) ≠ []) : ordr T l = k := by
  have : (List.range' 1 12).find? (fun k => (Cox.nf T (lpow l k)).isEmpty) = some k := by
    rw [List.find?_range'_eq_some]
    refine ⟨by simpa using h3, by simp; omega, fun j hj hjk => ?_⟩
    simpa using h4 j hj hjk
  rw [ordr, this]; rfl
theorem ordr_none {T : Cox.Tri K} {l : List (Fin 3)} (h : ∀ j, 1 ≤ j → j ≤ 12 → Cox.nf T (lpow l j) ≠ []) : ordr T l = 0 := by
  have : (List.range' 1 12).find? (fun k => (Cox.nf T (lpow l k)).isEmpty) = none := by
    rw [List.find?_eq_none]
    intro j hj
    simp at hj
    simpa using h j hj.1 (by omega)
  rw [ordr, this]; rfl

theorem powers_say (p : Nat) (s : ByteArray) (w : World) :
    Calls Try.prog 32 #[.agg #[.pointer (some ⟨p, 0, none⟩)], .string s] w fun e w' => e = .returned (.func (.func 40) #[] #[.pointer (some ⟨w.heap.size, 0, none⟩), .pointer (some ⟨w.heap.size + 1, 0, none⟩)]) ∧ w' = (w.alloc (.cells #[.pointer (some ⟨p, 0, none⟩)] 52)).alloc (.cells #[.string s] 9) := by
  go_enter Try.func32, Try.ntmps32
  go_wp2
  exact bodyPost_ret (results_tmp rfl _ _ _) rfl ⟨rfl, rfl⟩

theorem AtPow.eql {w0 : World} {T : Cox.Tri K} {a b c p F B4 B5 BP B52 B9 : Nat} {l : List (Fin 3)} {k m bt : Nat} {w : World} (h : AtPow w0 T a b c p F B4 B5 BP B52 B9 l k m bt w) :
    (binOp .eql 61 (.pointer (some ⟨bt, 0, none⟩)) (.pointer (some ⟨F, 0, none⟩))).run Try.prog w = .ok (.bool (Cox.nf T (lpow l k)).isEmpty) w := by
  have hh := h.home
  obtain ⟨j, hj, hjs⟩ : ∃ j, Try.prog.info? 75 = some j ∧ j.size ≠ 0 := ⟨_, rfl, by decide⟩
  obtain ⟨h1, h2, ⟨A, st, P, y, h3, h4, h5⟩, h6⟩ := h
  rw [← hh]
  obtain ⟨h7, nd, h8, h9⟩ := h4
  obtain ⟨_, nd0, g1, g2⟩ := h3.root
  by_cases e : bt = F
  · rw [e]
    simpa using run_eql_ptr_same (P := Try.prog) w (tp := 61) (te := 75) ⟨F, 0, none⟩ (by kernel_rfl) hj
  · have hne : (bt == F) = false := by simpa using e
    rw [hne]
    exact run_eql_ptr_other (P := Try.prog) w (tp := 61) (te := 75) (by kernel_rfl) hj hjs (by rintro ⟨⟩; exact e rfl) (by rw [h5]; exact h3.rep.cells y nd h8) (by rw [← h3.first]; exact h3.rep.cells 0 nd0 g1)

theorem Boxes.below {B4 B5 BP B52 B9 p : Nat} {l : List (Fin 3)} {x4 : Int} {w w' : World} (h : Boxes B4 B5 BP B52 B9 p l x4 w) (hb : Below w.heap.size w w') : Boxes B4 B5 BP B52 B9 p l x4 w' := by
  have g : ∀ b o, w.heap[b]? = some o → w'.heap[b]? = some o := fun b o ho => by rw [hb.block _ (Array.getElem?_eq_some_iff.1 ho).1]; exact ho
  exact ⟨g _ _ h.n, g _ _ h.err, g _ _ h.bp, g _ _ h.b52, g _ _ h.b9⟩
theorem AtPow.below {w0 : World} {T : Cox.Tri K} {a b c p F B4 B5 BP B52 B9 : Nat} {l : List (Fin 3)} {k m bt : Nat} {w w' : World} (h : AtPow w0 T a b c p F B4 B5 BP B52 B9 l k m bt w) (hb : Below w.heap.size w w') :
    AtPow w0 T a b c p F B4 B5 BP B52 B9 l k m bt w' := by
  obtain ⟨h1, h2, ⟨A, st, P, y, h3, h4, h5⟩, h6⟩ := h
  exact ⟨h1, h2.below hb, ⟨A, st, P, y, h3.mono hb, h4, h5⟩, h6⟩

/-- Order has found n -/
def Found (w : World) (B4 B5 : Nat) (n : Nat) (W : World) : Prop := W.heap[B4]? = some (.cells #[.int .i64 (n : Int)] 3 (0, 0)) ∧ W.heap[B5]? = some (.cells #[.int .i64 0] 26 (0, 0)) ∧ Below w.heap.size w W
theorem Found.put' {w : World} {B4 B5 n : Nat} {W : World} (h : Found w B4 B5 n W) {m : Nat} {r : Option (List Deferred)} (hl : W.heap[m]? = some (.deferred r)) (hB : w.heap.size ≤ m) (o' : Obj) : Found w B4 B5 n (W.putObj m o') := by
  have ne : ∀ b' cs T' fr, W.heap[b']? = some (.cells cs T' fr) → b' ≠ m := by
    rintro b' cs T' fr hb rfl
    rw [hl] at hb; cases hb
  refine ⟨by rw [World.putObj_heap_other (ne _ _ _ _ h.1)]; exact h.1, by rw [World.putObj_heap_other (ne _ _ _ _ h.2.1)]; exact h.2.1, h.2.2.trans ⟨rfl, rfl, rfl, by simp, fun k hk => ?_⟩⟩
  rw [World.putObj_heap_other (by omega)]
theorem Found.put {w : World} {B4 B5 n : Nat} {W : World} (h : Found w B4 B5 n W) {m : Nat} {r : Loop} (hl : W.heap[m]? = some (.loop r)) (hB : w.heap.size ≤ m) (o' : Obj) : Found w B4 B5 n (W.putObj m o') := by
  have ne : ∀ b' cs T' fr, W.heap[b']? = some (.cells cs T' fr) → b' ≠ m := by
    rintro b' cs T' fr hb rfl
    rw [hl] at hb; cases hb
  refine ⟨by rw [World.putObj_heap_other (ne _ _ _ _ h.1)]; exact h.1, by rw [World.putObj_heap_other (ne _ _ _ _ h.2.1)]; exact h.2.1, h.2.2.trans ⟨rfl, rfl, rfl, by simp, fun k hk => ?_⟩⟩
  rw [World.putObj_heap_other (by omega)]

set_option maxHeartbeats 2000000 in
theorem order_yes (T : Cox.Tri K) (a b c : Nat) (hT : T.m = ords a b c) (l : List (Fin 3)) (he : errs a b c [wb l] = 0) (w : World) :
    Calls Try.prog 19 #[oval a b c, .string (wb l)] w fun e w' => e = .returned (.tuple #[.int .i64 (ordr T l), .int .i64 0]) ∧ Below w.heap.size w w' := by
  refine (callsIn_wide (n := 5)).1 ?_
  obtain ⟨_, h60⟩ := errs_ok (ws := [l]) he
  have hl60 := h60 l (by simp)
  have HB := Lib.hid (fun (bl C : Nat) (w : World) (hbl : bl < w.heap.size) (hl : Strs w bl ([l].map wb)) => begun_st T a b c hT [l] bl C (by simp) w hbl hl he)
  clear he h60
  unfold oval at *
  refine callsIn_of_wp_marks Try.func19 rfl trivial ?_ rfl
  simp only [Try.ntmps19, List.size_toArray, List.length_cons, List.length_nil, Nat.reduceAdd, Nat.reduceSub, Array.replicate_succ, Array.replicate_zero, List.push_toArray, List.append_toArray, List.nil_append, List.cons_append]
  gi_wp2_with fail
  refine ⟨trivial, ?_⟩
  gi_at_call 26
  refine (callsIn_wide.2 (HB.out _ _ _ (by simp) (strs_one _ _ _ _ (by simp)))).mono ?_
  rintro e wa ⟨p, F, rfl, hst⟩
  have HST := Lib.hid hst
  clear hst
  gi_wp2_with fail
  refine ⟨trivial, ?_⟩
  gi_at_call 32
  refine (callsIn_wide.2 (powers_say _ _ _)).mono ?_
  rintro e wq ⟨rfl, rfl⟩
  obtain ⟨w0, hw0⟩ : ∃ w0, (((w.alloc (Obj.cells #[Value.int IntKind.i64 ↑a, Value.int IntKind.i64 ↑b, Value.int IntKind.i64 ↑c] 23)).alloc (Obj.cells #[Value.int IntKind.i64 0] 3)).alloc (Obj.cells #[Value.int IntKind.i64 0] 26)).alloc (Obj.cells #[Value.string (wb l)] 9) = w0 := ⟨_, rfl⟩
  have hst := HST.out
  rw [hw0] at hst
  obtain ⟨W8, hW8⟩ : ∃ W8, (((wa.alloc (Obj.cells #[Value.pointer (some { block := p, off := 0 })] 52)).alloc (Obj.cells #[Value.pointer (some { block := p, off := 0 })] 52)).alloc (Obj.cells #[Value.string (wb l)] 9)) = W8 := ⟨_, rfl⟩
  have hw0s : w0.heap.size = w.heap.size + 4 := by rw [← hw0]; simp
  have h0a := hst.below.size
  have g1 : wa.heap[w.heap.size + 1]? = some (.cells #[.int .i64 0] 3 (0, 0)) := by
    rw [hst.below.block _ (by omega), ← hw0]
    exact str_old _ _ (str_old _ _ (str_new _ _ _ _ (by simp)))
  have g2 : wa.heap[w.heap.size + 1 + 1]? = some (.cells #[.int .i64 0] 26 (0, 0)) := by
    rw [hst.below.block _ (by omega), ← hw0]
    exact str_old _ _ (str_new _ _ _ _ (by simp))
  have hbx : Boxes (w.heap.size + 1) (w.heap.size + 1 + 1) wa.heap.size (wa.heap.size + 1) (wa.heap.size + 1 + 1) p l 0 W8 := by
    rw [← hW8]
    exact ⟨str_old _ _ (str_old _ _ (str_old _ _ g1)), str_old _ _ (str_old _ _ (str_old _ _ g2)), str_old _ _ (str_old _ _ (str_new _ _ _ _ rfl)), str_old _ _ (str_new _ _ _ _ (by simp)), str_new _ _ _ _ (by simp)⟩
  have hps : PState w0 T a b c p F (fun _ => F) [Cox.first] (fun k => k = 0) W8 := by
    rw [← hW8]
    exact hst.mono ((((Below.refl _ _).alloc (Nat.le_refl _) _).alloc (by simp) _).alloc (by simp; omega) _)
  have hbw : ∀ W', Below w0.heap.size w0 W' → Below w.heap.size w W' := by
    intro W' h
    refine Below.trans ?_ (h.mono (by omega))
    rw [← hw0]
    exact ((((Below.refl _ _).alloc (Nat.le_refl _) _).alloc (by simp) _).alloc (by simp; omega) _).alloc (by simp; omega) _
  have hs8 : W8.heap.size = wa.heap.size + 3 := by rw [← hW8]; simp
  have h0 : AtPow w0 T a b c p F (w.heap.size + 1) (w.heap.size + 1 + 1) wa.heap.size (wa.heap.size + 1) (wa.heap.size + 1 + 1) l 0 0 F W8 :=
    ⟨by omega, hbx, ⟨_, _, _, 0, hps, by simpa [lpow, Cox.nf_nil] using hps.root, rfl⟩, fun j h1 h2 => by omega⟩
  have HBW := Lib.hid hbw
  have H0 := Lib.hid h0
  clear hbw h0 hps hbx g1 g2 hst HST HB
  have HSZ := Lib.hid (show w.heap.size ≤ w.heap.size + 1 ∧ w.heap.size ≤ w.heap.size + 1 + 1 ∧ w.heap.size + 4 ≤ W8.heap.size ∧ w0.heap.size ≤ W8.heap.size by omega)
  clear hw0 hw0s h0a hs8
  gi_wp2_with fail
  clear hW8
  generalize wa.heap.size + 1 + 1 = B9 at *
  generalize wa.heap.size + 1 = B52 at *
  generalize wa.heap.size = BP at *
  generalize w.heap.size + 1 + 1 + 1 = B7 at *
  generalize w.heap.size + 1 + 1 = B5 at *
  generalize w.heap.size + 1 = B4 at *
  have fin : ∀ {D : Nat} {W : World} {tmps : Array Value}, Found w B4 B5 (ordr T l) W → W.heap[D]? = some (.deferred (some [])) → W8.heap.size ≤ D → tmps[4]? = some (.pointer (some ⟨B4, 0, none⟩)) → tmps[5]? = some (.pointer (some ⟨B5, 0, none⟩)) →
      LeavesInM Fence.wide 5 Try.prog Try.f19 tmps (fun e w' => e = Ending.returned (Value.tuple #[Value.int IntKind.i64 ↑(ordr T l), Value.int IntKind.i64 0]) ∧ Below w.heap.size w w') [{ target := .collected D, args := #[] }, { target := Target.fn (Fn.func 25) #[], args := #[Value.pointer (some { block := B5, off := 0 })] }] .returning W := by
    intro D W tmps hf hK hD ht4 ht5
    have hsz := HSZ.out
    have hf2 := hf.put' hK (by omega) (.deferred none)
    refine ⟨by simp, .inl ⟨_, _, rfl, run_takeDeferred hK, ?_⟩⟩
    refine ⟨by simp, .inr ⟨fun _ => by omega, Fn.func 25, #[], 25, #[.pointer (some ⟨B5, 0, none⟩)], rfl, by simp [go_sem], fun g hg => trivial, ?_⟩⟩
    refine (caught_idle_in _ _ trivial rfl ⟨B5, 0, none⟩ _).mono ?_
    rintro e u' w'' ⟨rfl, rfl, rfl⟩
    have c4 := cell_of hf2.1 0
    have c5 := cell_of hf2.2.1 0
    simp at c4 c5
    have hb := hf2.2.2
    simp [LeavesInM, LeavesIn, settle, results, Try.results19, go_sem, ht4, ht5, c4, c5, hb]
  refine range_iter (X := Nat × Nat) (gf := 40) (lb := #[.pointer (some ⟨B52, 0, none⟩), .pointer (some ⟨B9, 0, none⟩)]) rfl (by omega) rfl trivial (fun args w => by kernel_rfl)
    encp (fun x => rfl) (fun x W => 1 ≤ x.1 ∧ AtPow w0 T a b c p F B4 B5 BP B52 B9 l x.1 (x.1 - 1) x.2 W) (fun x W => AtPow w0 T a b c p F B4 B5 BP B52 B9 l x.1 x.1 x.2 W) (fun W => AtPow w0 T a b c p F B4 B5 BP B52 B9 l 0 0 F W)
    (Ran w0 T a b c p F B4 B5 BP B52 B9 l) (Found w B4 B5 (ordr T l))
    ?ib ?i ?idd ?ix ?start
    (fun x => { tmps :=
        #[Value.agg #[Value.int IntKind.i64 ↑a, Value.int IntKind.i64 ↑b, Value.int IntKind.i64 ↑c],
          Value.string (wb l), Value.pointer (some { block := w.heap.size, off := 0 }), undef,
          Value.pointer (some { block := B4, off := 0 }),
          Value.pointer (some { block := B5, off := 0 }),
          Value.pointer (some { block := BP, off := 0 }), .int .i64 (x.1 : Int), .pointer (some ⟨x.2, 0, none⟩),
          Value.agg #[Value.int IntKind.i64 ↑a, Value.int IntKind.i64 ↑b, Value.int IntKind.i64 ↑c],
          Value.string (wb l), Value.slice (some { block := B7, off := 0 }) 1 1,
          Value.agg #[Value.pointer (some { block := p, off := 0 })],
          Value.agg #[Value.pointer (some { block := p, off := 0 })], Value.string (wb l),
          Value.func (Fn.func 40) #[]
            #[Value.pointer (some { block := B52, off := 0 }),
              Value.pointer (some { block := B9, off := 0 })],
          .int .i64 (x.1 : Int), .pointer (some ⟨x.2, 0, none⟩), undef, undef, undef, undef, undef, undef, undef, undef], defers := [] }) ?assign ?body ?iter ?done ?stop
  case ib =>
    rintro x W m o' hm ⟨r, hr⟩ ⟨h1, h2⟩
    exact ⟨h1, h2.put hr (by have := HSZ.out; omega) o'⟩
  case i =>
    rintro x W m o' hm ⟨r, hr⟩ h2
    exact h2.put hr (by have := HSZ.out; omega) o'
  case idd =>
    rintro W m o' hm ⟨r, hr⟩ ⟨bt, h2⟩
    exact ⟨bt, h2.put hr (by have := HSZ.out; omega) o'⟩
  case ix =>
    rintro W m o' hm ⟨r, hr⟩ h2
    exact h2.put hr (by have := HSZ.out; omega) o'
  case start =>
    intro r
    exact H0.out.below (((Below.refl _ _).alloc (Nat.le_refl _) _).alloc (by simp) _)
  case iter =>
    intro m W RR RX hRR hRX h0 hr hm hl hY
    exact powers_in w0 T a b c p F B4 B5 BP B52 B9 l hl60 _ (by omega) m W RR RX _ hRR h0 hr hY
  case assign =>
    intro m x W KK hK
    dsimp only [encp]
    gi_wp2_with (rw [Oper.semAt_eq _ _ _ (fun c h => by cases h)]; go_simp; try go_bits)
    exact hK
  case body =>
    rintro m x W ⟨h1, h2⟩
    have heq := h2.eql
    have cbp := cell_of h2.2.1.bp 0
    obtain ⟨A, st, P, y, hs, -, -⟩ := h2.2.2.1
    have cp := cell_of hs.plane 9
    have q4 := cell_of h2.2.1.n 0
    have q5 := cell_of h2.2.1.err 0
    have z4 := free_of h2.2.1.n 0
    have z5 := free_of h2.2.1.err 0
    have hne : B5 ≠ B4 := by
      rintro rfl
      have := h2.2.1.n
      rw [h2.2.1.err] at this
      simp at this
    have r4 := str_set W (.int .i64 (x.1 : Int)) h2.2.1.n
    have r5 := str_set_far W (.int .i64 (x.1 : Int)) h2.2.1.err hne
    have t5 := cell_of r5 0
    have u5 := free_of r5 0
    have t4 := str_set_far (W.setCell ⟨B4, 0, none⟩ (.int .i64 (x.1 : Int))) (.int .i64 0) r4 hne.symm
    have s5 := str_set (W.setCell ⟨B4, 0, none⟩ (.int .i64 (x.1 : Int))) (.int .i64 0) r5
    have h5 : KeepsOthers W ((W.setCell ⟨B4, 0, none⟩ (.int .i64 (x.1 : Int))).setCell ⟨B5, 0, none⟩ (.int .i64 0)) := (KeepsOthers.setCell _ _ _).trans (KeepsOthers.setCell _ _ _)
    have T4 := Lib.hid t4
    have S5 := Lib.hid s5
    have H5 := Lib.hid h5
    have HBE := Lib.hid (hs.below)
    clear r4 r5 hne t4 s5 h5
    simp [pcells] at cbp cp q4 q5 z4 z5 t5 u5
    have H2 := Lib.hid h2
    obtain ⟨z, hz⟩ : ∃ z, (Cox.nf T (lpow l x.1)).isEmpty = z := ⟨_, rfl⟩
    rw [hz] at heq
    have HZ := Lib.hid hz
    clear h2 hs hz
    gi_wp2_with (rw [Oper.semAt_eq _ _ _ (fun c h => by cases h)]; go_simp; try go_bits)
    · rename_i hzt
      have hz := HZ.out
      rw [hzt] at hz
      have he : Cox.nf T (lpow l x.1) = [] := by simpa using hz
      obtain ⟨g1, _, _, g4⟩ := H2.out
      have ho : ordr T l = x.1 := ordr_at h1 g1 he fun j hj hjx => g4 j hj (by omega)
      refine ⟨H5.out, ?_⟩
      rw [ho]
      have hsz := HSZ.out
      exact ⟨T4.out, S5.out, ((HBW.out _ HBE.out).setCell (by simp; omega) _).setCell (by simp; omega) _⟩
    · rename_i hzt
      have hz := HZ.out
      rw [hzt] at hz
      have he : Cox.nf T (lpow l x.1) ≠ [] := by simpa using hz
      obtain ⟨g1, g2, g3, g4⟩ := H2.out
      refine ⟨KeepsOthers.refl _, g1, g2, g3, fun j hj hjx => ?_⟩
      by_cases hjj : j = x.1
      · rw [hjj]; exact he
      · exact g4 j hj (by omega)
  case done =>
    rintro D W hD ⟨bt, hr⟩ hK
    have q4 := cell_of hr.2.1.n 0
    have q5 := cell_of hr.2.1.err 0
    have z4 := free_of hr.2.1.n 0
    have z5 := free_of hr.2.1.err 0
    have hne : B5 ≠ B4 := by
      rintro rfl
      have := hr.2.1.n
      rw [hr.2.1.err] at this
      simp at this
    have r4 := str_set W (.int .i64 0) hr.2.1.n
    have r5 := str_set_far W (.int .i64 0) hr.2.1.err hne
    have t5 := cell_of r5 0
    have u5 := free_of r5 0
    have t4 := str_set_far (W.setCell ⟨B4, 0, none⟩ (.int .i64 0)) (.int .i64 0) r4 hne.symm
    have s5 := str_set (W.setCell ⟨B4, 0, none⟩ (.int .i64 0)) (.int .i64 0) r5
    have h5 : KeepsOthers W ((W.setCell ⟨B4, 0, none⟩ (.int .i64 0)).setCell ⟨B5, 0, none⟩ (.int .i64 0)) := (KeepsOthers.setCell _ _ _).trans (KeepsOthers.setCell _ _ _)
    have hK' := h5.same D _ hK rfl
    obtain ⟨A, st, P, y, hs, -, -⟩ := hr.2.2.1
    have hbel : Below w.heap.size w ((W.setCell ⟨B4, 0, none⟩ (.int .i64 0)).setCell ⟨B5, 0, none⟩ (.int .i64 0)) := by
      have hsz := HSZ.out
      exact ((HBW.out _ hs.below).setCell (by simp; omega) _).setCell (by simp; omega) _
    have ho : ordr T l = 0 := ordr_none hr.2.2.2
    have HF := Lib.hid (show Found w B4 B5 (ordr T l) ((W.setCell ⟨B4, 0, none⟩ (.int .i64 0)).setCell ⟨B5, 0, none⟩ (.int .i64 0)) from by rw [ho]; exact ⟨t4, s5, hbel⟩)
    have HK := Lib.hid hK'
    clear r4 r5 hne t4 s5 h5 hK' hK hs hbel hr ho
    simp at q4 q5 z4 z5 t5 u5
    gi_wp2
    exact fin HF.out HK.out hD rfl rfl
  case stop =>
    rintro D W hD hf hK
    gi_wp2
    exact fin hf hK hD rfl rfl

theorem order_no (a b c : Int) (s : ByteArray) (hs : s.size ≤ maxLen) (he : errs a b c [s] ≠ 0) (w : World) :
    Calls Try.prog 19 #[oval a b c, .string s] w fun e w' => e = .returned (.tuple #[.int .i64 0, .int .i64 (errs a b c [s])]) ∧ Below w.heap.size w w' := by
  have hst : ∀ x, x ∈ [s] → x.size ≤ maxLen := by
    intro x hx
    have : x = s := by simpa using hx
    subst this; exact hs
  have BN := fun (bl C : Nat) (w : World) (hbl : bl < w.heap.size) (hl : Strs w bl [s]) => begun_no a b c [s] bl C (by simp) hst w hbl hl he
  have HB := Lib.hid BN
  clear BN he hst
  generalize errs a b c [s] = r at *
  unfold oval at *
  go_enter_defers Try.func19, Try.ntmps19
  go_wp2_with fail
  go_at_call 26
  refine (HB.out _ _ _ (by simp) (strs_one _ _ _ _ (by simp))).mono ?_
  rintro e w2 ⟨rfl, hb2⟩
  have g0 : (((((w.alloc (.cells #[.int .i64 a, .int .i64 b, .int .i64 c] 23)).alloc (.cells #[.int .i64 0] 3)).alloc (.cells #[.int .i64 0] 26)).alloc (.cells #[.string s] 9))).heap[w.heap.size + 1]? = some (.cells #[.int .i64 0] 3 (0, 0)) := str_old _ _ (str_old _ _ (str_new _ _ _ _ (by simp)))
  have g1 : (((((w.alloc (.cells #[.int .i64 a, .int .i64 b, .int .i64 c] 23)).alloc (.cells #[.int .i64 0] 3)).alloc (.cells #[.int .i64 0] 26)).alloc (.cells #[.string s] 9))).heap[w.heap.size + 1 + 1]? = some (.cells #[.int .i64 0] 26 (0, 0)) := str_old _ _ (str_new _ _ _ _ (by simp))
  rw [← hb2.block _ (by simp)] at g0 g1
  have q3 := cell_of g0 0
  have q4 := cell_of g1 0
  have q5 := free_of g1 0
  have q6 := cell_of (str_set_far w2 (.int .i64 r) g0 (b := w.heap.size + 1 + 1) (by omega)) 0
  have q7 := cell_of (str_set w2 (.int .i64 r) g1) 0
  have hb3 : Below w.heap.size w w2 := (((((Below.refl _ _).alloc (Nat.le_refl _) _).alloc (by simp) _).alloc (by simp; omega) _).alloc (by simp; omega) _).trans (hb2.mono (by simp; omega))
  refine leaves_cons (f := 25) (args := #[.pointer (some ⟨w.heap.size + 1 + 1, 0, none⟩)]) (by simp) (by simp [go_sem]) ?_
  refine (caught_panicking ⟨w.heap.size + 1 + 1, 0, none⟩ 0 r [] _ q4 q5).mono ?_
  rintro e u' w'' ⟨rfl, rfl, rfl⟩
  have hb4 := hb3.setCell (p := ⟨w.heap.size + 1 + 1, 0, none⟩) (by simp; omega) (.int .i64 r)
  simp at q6 q7
  simp [Leaves, settle, results, Try.results19, go_sem, q6, q7, hb4]
end
end Go.Proofs.Ytlhmfaelkkiahaa
