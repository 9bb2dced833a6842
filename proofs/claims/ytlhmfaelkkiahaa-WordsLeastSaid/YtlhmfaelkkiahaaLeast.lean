/-
  Proved: for every input the law WordsLeast returns true, and each argument reads behind the call as it read before. No condition is laid on the input.
-/
import Derived.Test.YtlhmfaelkkiahaaLaw2
import Derived.Test.YtlhmfaelkkiahaaShut
namespace Go.Proofs.Ytlhmfaelkkiahaa
open Go.ChangeShapes Go.WideShapes Go.ChangeAt Go.RowKit Go.ChangeMaps Go.Joins

theorem least_any (a b c : Int) (s t : ByteArray) (hs : s.size ≤ maxLen) (ht : t.size ≤ maxLen) (k : Int) (w : World) :
    Calls Try.prog 4 #[oval a b c, .string s, .string t, .int .i64 k] w fun e w' => e = .returned (.bool true) ∧ Below w.heap.size w w' := by
  by_cases he : errs a b c [s, t] = 0
  · obtain ⟨h0, ws, hw, h60⟩ := errs_words he
    obtain ⟨a', b', c', rfl, rfl, rfl, ha, hb, hc, _⟩ := chk_nat h0
    obtain ⟨T, hT⟩ := ords_tri ha hb hc
    match ws, hw, h60 with
    | [l, v], hw, h60 =>
      simp only [List.map_cons, List.map_nil, List.cons.injEq, and_true] at hw
      obtain ⟨rfl, rfl⟩ := hw
      exact least_yes T a' b' c' hT h0 l v (h60 l (by simp)) (h60 v (by simp)) k w
    | [], hw, _ => cases hw
    | [_], hw, _ => simp at hw
    | _ :: _ :: _ :: _, hw, _ => simp at hw
  · exact least_no a b c s t hs ht k he w

set_option maxRecDepth 100000 in
theorem least_lifted (os : Os) (started : os.Started) (H : Type) (enc : TypeId × Value → H) :
    ReturnsInHanded {} Try.checked os 4 .any (Rows.wordsLeastSpec.pre6 enc Try.prog Try.f4 Rows.wordsLeastRow.domain false) (Rows.wordsLeastSpec.post enc Try.prog Try.f4 false true false false) := by
  refine returnsInHanded_of_change (C := Try.checked) Try.own started (by kernel_rfl) Try.func4
    (ChangeSpec.witness6 (enc := enc) (C := Try.checked) false ⟨#[], #[.agg #[.int .i64 0, .int .i64 0, .int .i64 0], .string ⟨#[]⟩, .string ⟨#[]⟩, .int .i64 0], []⟩ 8 (by kernel_rfl) (by kernel_rfl) (by kernel_rfl) (by kernel_rfl)) ?_
  intro W base args ds gs before hval0 hW hcnd _
  have hval : ∀ (j : Nat) t v, Try.f4.params[j]? = some t → args[j]? = some v → Value.okWide Try.prog W .any base t v := hval0
  have hW' := hW
  obtain ⟨p, q, hA0, hV, rfl, hfz, hnd⟩ := hW
  have hA : DataW.TrodAll enc Try.prog W 0 (fun _ => true) true Try.f4.params.toList args.toList ds p := hA0
  rw [Try.params4] at hA hval
  obtain ⟨v0, v1, v2, v3, d0, d1, d2, d3, p0, p1, p2, p3, rfl, rfl, rfl, h0, h1, h2, h3⟩ := trodAll_four hA
  obtain ⟨rfl, rfl⟩ := trodVars_none hV
  obtain ⟨a, b, c, rfl, rfl, rfl, wa, wb, wc⟩ := open_orders (hval 0 23 v0 rfl rfl) h0
  obtain ⟨s, rfl, rfl, rfl, ws⟩ := open_string Try.underlying9 (hval 1 9 v1 rfl rfl) h1
  obtain ⟨t, rfl, rfl, rfl, wt⟩ := open_string Try.underlying9 (hval 2 9 v2 rfl rfl) h2
  obtain ⟨k, rfl, rfl, rfl, wk⟩ := open_int Try.underlying3 (hval 3 3 v3 rfl rfl) h3
  clear hA0 hval0
  simp only [List.append_nil] at hW'
  refine (least_any a b c s t ws wt k W).mono fun e W' ⟨he, hb⟩ => ?_
  subst he
  refine ⟨_, rfl, law_post hW' rfl rfl rfl (fun sp => ?_) rfl hb⟩
  exact trodAll_mk4 (shut_orders wa wb wc) (shut_string Try.underlying9 ws) (shut_string Try.underlying9 wt) (shut_int Try.underlying3 wk)

theorem wordsLeast_holds : Rows.WordsLeastSaid :=
  OpenClaim.holds_of_wide 4 Try.f4 rfl rfl rfl rfl rfl rfl rfl ⟨rfl, rfl, rfl, rfl, rfl⟩ rfl rfl rfl rfl rfl (by kernel_rfl) Try.func4 (by kernel_rfl)
    (of_decide_eq_true (by kernel_rfl)) (by unfold Func.isWrapper; first | (rw [if_pos (by decide +kernel)]; kernel_rfl) | (rw [if_neg (by decide +kernel)]; exact ⟨rfl, rfl⟩))
    (fun os started H enc _ => least_lifted os started H enc)
#print axioms wordsLeast_holds
end Go.Proofs.Ytlhmfaelkkiahaa
