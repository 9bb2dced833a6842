/-
  Proved: for every input the law WordsSteps returns true, and each argument reads behind the call as it read before. No condition is laid on the input.
-/
import Derived.Test.YtlhmfaelkkiahaaSt6
import Derived.Carry
import Derived.Deep.Strs
namespace Go.Proofs.Ytlhmfaelkkiahaa
open Go.ChangeShapes Go.WideShapes Go.ChangeAt Go.RowKit Go.ChangeMaps Go.Joins Go.Deep

theorem steps_any (a b c : Int) (s : ByteArray) (hs : s.size ≤ maxLen) (p : Option Addr) (n cap : Nat) (w : World)
    (hcell : ∀ i, i < n → ∃ (bk o : Nat) (k y x : Int), p = some ⟨bk, o, none⟩ ∧ bk < w.heap.size ∧ w.cell? ⟨bk, o + i * 3, none⟩ = some (.int .i64 k) ∧ w.cell? ⟨bk, o + i * 3 + 1, none⟩ = some (.int .i64 y) ∧ w.cell? ⟨bk, o + i * 3 + 2, none⟩ = some (.int .i64 x)) :
    Calls Try.prog 3 #[oval a b c, .string s, .slice p n cap] w fun e w' => e = .returned (.bool true) ∧ Below w.heap.size w w' := by
  by_cases hn : 200 < n
  · exact steps_long a b c s p n cap hn w
  by_cases he : errs a b c [s] = 0
  · obtain ⟨h0, ws, hw, h60⟩ := errs_words he
    obtain ⟨a', b', c', rfl, rfl, rfl, ha, hb, hc, ha2, hb2, hc2⟩ := chk_nat h0
    obtain ⟨T, hT⟩ := ords_tri ha hb hc
    match ws, hw, h60 with
    | [l], hw, h60 =>
      simp only [List.map_cons, List.map_nil, List.cons.injEq, and_true] at hw
      subst hw
      exact steps_yes T a' b' c' hT h0 ⟨ha2, hb2, hc2⟩ l (h60 l (by simp)) p n cap (by omega) w hcell
    | [], hw, _ => cases hw
    | _ :: _ :: _, hw, _ => simp at hw
  · exact steps_no a b c s hs he p n cap (by omega) w

theorem Try.cellsInt : Try.prog.cellsOf 3 = 1 := by kernel_rfl
theorem Try.cells32 : Try.prog.cellsOf 32 = 3 := by kernel_rfl
theorem Try.laidAll : laidOutB Try.prog = true := by kernel_rfl

section
variable {H : Type} {enc : TypeId × Value → H}

/-- a law's end, where an argument is memory: it is read through the same places -/
theorem law_post_mem {f : Func} {s : ChangeSpec} {W W' : World} {args : Array Value} {ds : List (DataW H)} {ps : List MemPlace}
    (hW : DataW.Whole enc Try.prog f.params.toList s.vars false W args.toList ds [] ps) (hv : s.vars = [])
    (hft : f.resultTypes = #[4]) (hrs : (s.fn H (ds ++ [])).results = [.lit (.bool true)])
    (hargs : DataW.TrodAll enc Try.prog W' 0 (fun b => decide (b < W.heap.size)) true f.params.toList args.toList (s.fn H (ds ++ [])).args ps)
    (hvars : (s.fn H (ds ++ [])).vars = []) (hb : Below W.heap.size W W') : s.post enc Try.prog f false true false false W args (.bool true) W' := by
  have hres : ∀ (b : Nat) (sp : Nat → Bool) (hd : Bool), DataW.TrodAll enc Try.prog W' b sp hd f.resultTypes.toList ((Value.bool true).resultList f.resultTypes.size) (s.fn H (ds ++ [])).results [] := by
    intro b sp hd
    rw [hft, hrs]
    exact trodAll_mk1 (shut_bool Try.underlying4 _)
  have hvs : ∀ sp : Nat → Bool, DataW.TrodVars enc Try.prog W' sp s.vars (s.fn H (ds ++ [])).vars [] := by
    intro sp
    rw [hv, hvars]
    rfl
  exact ⟨ds, [], _, _, _, _, hW, hres _ _ _, hargs, hvs _, hb.frame _, fun h => by cases h⟩

/-- the steps, read -/
theorem open_steps {W : World} {b0 : Nat} {r : Reach} {v : Value} {d : DataW H} {p : List MemPlace} (hv : Value.okWide Try.prog W r b0 24 v) (h : DataW.Trod enc Try.prog W 0 (fun _ => true) true 24 v d p) :
    ∃ (q : Option Addr) (n cap : Nat), v = .slice q n cap ∧
      ∀ i, i < n → ∃ (bk o : Nat) (k y x : Int), q = some ⟨bk, o, none⟩ ∧ bk < W.heap.size ∧ W.cell? ⟨bk, o + i * 3, none⟩ = some (.int .i64 k) ∧ W.cell? ⟨bk, o + i * 3 + 1, none⟩ = some (.int .i64 y) ∧ W.cell? ⟨bk, o + i * 3 + 2, none⟩ = some (.int .i64 x) := by
  obtain ⟨a0, len, cap, rfl⟩ := okWide_slice Try.underlying24 hv
  refine ⟨a0, len, cap, rfl, ?_⟩
  obtain ⟨fuel, hf⟩ := h
  rcases open_slice Try.underlying24 hf with ⟨hc, _⟩ | ⟨a, len', cap', m, n, D, Pl, hc, _, hl, hm, hmm, hx, hall⟩
  · have : len = 0 := by
      simp [Value.cells] at hc
      exact hc.2.1
    subst this
    intro i hi; omega
  · have hc' : a0 = some a ∧ len = len' ∧ cap = cap' := by simpa [Value.cells] using hc
    obtain ⟨rfl, rfl, rfl⟩ := hc'
    intro i hi
    have him : i < m := by rw [hmm]; simp; omega
    obtain ⟨cs', hcs, ht⟩ := hall i him
    rw [Try.cells32] at hcs
    obtain ⟨_, hcl, hat⟩ := World.cells?_some hcs
    -- where the slice begins
    have hsp : ∀ {q : Addr} {u : Value}, W.cell? q = some u → q.spot = none ∧ q.block < W.heap.size := by
      intro q u hq
      unfold World.cell? at hq
      cases hb : W.heap[q.block]? with
      | none => rw [hb] at hq; cases hq
      | some ob =>
        have hlt := (Array.getElem?_eq_some_iff.1 hb).1
        rw [hb] at hq
        cases ob with
        | cells c e z =>
          simp only at hq
          cases hs : q.spot with
          | none => exact ⟨rfl, hlt⟩
          | some z => rw [hs] at hq; simp at hq
        | _ => cases hq
    obtain ⟨cs0, hcs0, _⟩ := hall 0 (by omega)
    rw [Try.cells32] at hcs0
    obtain ⟨_, hcl0, hat0⟩ := World.cells?_some hcs0
    obtain ⟨bk, o, sp⟩ := a
    have h00 := hat0 0 (by omega)
    rw [Nat.zero_mul] at h00
    have e00 : ((Addr.mk bk o sp).add 0).add 0 = ⟨bk, o, sp⟩ := rfl
    rw [e00, List.getElem?_eq_getElem (by omega)] at h00
    obtain ⟨hs1, hs2⟩ := hsp h00
    simp only at hs1 hs2
    subst hs1
    have hadd : ∀ j, (Addr.add (Addr.add ⟨bk, o, none⟩ (i * 3)) j) = ⟨bk, o + i * 3 + j, none⟩ := by
      intro j
      unfold Addr.add
      split <;> split <;> simp_all
    match cs', hcl, ht, hat with
    | [v0, v1, v2], _, ht, hat =>
      obtain ⟨y0, y1, y2, n', _, _, g0, g1, g2⟩ := trod_struct3 Try.underlying32 ht
      have c0 := hat 0 (by omega)
      have c1 := hat 1 (by omega)
      have c2 := hat 2 (by omega)
      rw [hadd] at c0 c1 c2
      simp only [Try.cellsInt, List.drop_zero, List.drop_succ_cons, List.take_succ_cons, List.take_zero] at g0 g1 g2
      obtain ⟨k, e0, _, _⟩ := DataW.trod_int Try.underlying3 g0
      obtain ⟨y, e1, _, _⟩ := DataW.trod_int Try.underlying3 g1
      obtain ⟨x, e2, _, _⟩ := DataW.trod_int Try.underlying3 g2
      simp only [List.cons.injEq, and_true] at e0 e1 e2
      subst e0 e1 e2
      exact ⟨bk, o, k, y, x, rfl, hs2, c0, c1, c2⟩
end

set_option maxRecDepth 100000 in
theorem steps_lifted (os : Os) (started : os.Started) (H : Type) (enc : TypeId × Value → H) :
    ReturnsInHanded {} Try.checked os 3 .any (Rows.wordsStepsSpec.pre6 enc Try.prog Try.f3 Rows.wordsStepsRow.domain false) (Rows.wordsStepsSpec.post enc Try.prog Try.f3 false true false false) := by
  refine returnsInHanded_of_change (C := Try.checked) Try.own started (by kernel_rfl) Try.func3
    (ChangeSpec.witness6 (enc := enc) (C := Try.checked) false ⟨#[], #[.agg #[.int .i64 0, .int .i64 0, .int .i64 0], .string ⟨#[]⟩, .slice none 0 0], []⟩ 8 (by kernel_rfl) (by kernel_rfl) (by kernel_rfl) (by kernel_rfl)) ?_
  intro W base args ds gs before hval0 hW hcnd _
  have hval : ∀ (j : Nat) t v, Try.f3.params[j]? = some t → args[j]? = some v → Value.okWide Try.prog W .any base t v := hval0
  have hW' := hW
  obtain ⟨p, q, hA0, hV, rfl, hfz, hnd⟩ := hW
  have hA : DataW.TrodAll enc Try.prog W 0 (fun _ => true) true Try.f3.params.toList args.toList ds p := hA0
  rw [Try.params3] at hA hval
  obtain ⟨v0, v1, v2, d0, d1, d2, p0, p1, p2, rfl, rfl, rfl, h0, h1, h2⟩ := trodAll_three hA
  obtain ⟨rfl, rfl⟩ := trodVars_none hV
  obtain ⟨a, b, c, rfl, rfl, rfl, wa, wb, wc⟩ := open_orders (hval 0 23 v0 rfl rfl) h0
  obtain ⟨s, rfl, rfl, rfl, ws⟩ := open_string Try.underlying9 (hval 1 9 v1 rfl rfl) h1
  clear hA0 hval0
  simp only [List.append_nil, List.nil_append] at hW'
  have hlt : ∀ x ∈ p2, x.block < W.heap.size := fun x hx => by simpa using hW'.lt x hx
  obtain ⟨q, n, cap, rfl, hc⟩ := open_steps (hval 2 24 v2 rfl rfl) h2
  refine (steps_any a b c s ws q n cap W hc).mono fun e W' ⟨he, hb⟩ => ?_
  subst he
  refine ⟨_, rfl, law_post_mem hW' rfl rfl rfl ?_ rfl hb⟩
  exact trodAll_mk3 (shut_orders wa wb wc) (shut_string Try.underlying9 ws) (Below.trod Try.laidAll (by kernel_rfl) (of_decide_eq_true (by kernel_rfl)) h2 hb hlt)

theorem wordsSteps_holds : Rows.WordsStepsSaid :=
  OpenClaim.holds_of_wide 3 Try.f3 rfl rfl rfl rfl rfl rfl rfl ⟨rfl, rfl, rfl, rfl, rfl⟩ rfl rfl rfl rfl rfl (by kernel_rfl) Try.func3 (by kernel_rfl)
    (of_decide_eq_true (by kernel_rfl)) (by unfold Func.isWrapper; first | (rw [if_pos (by decide +kernel)]; kernel_rfl) | (rw [if_neg (by decide +kernel)]; exact ⟨rfl, rfl⟩))
    (fun os started H enc _ => steps_lifted os started H enc)
#print axioms wordsSteps_holds
end Go.Proofs.Ytlhmfaelkkiahaa
