/-
 Proved: for every input the law ProofFits returns true, and each argument reads behind the call as it read before. No condition is laid on the input.
-/
import Derived.Test.YtkndmibmmoikbaaC47
set_option linter.all false
set_option maxRecDepth 100000
set_option maxHeartbeats 16000000
namespace Go.Proofs.Ytkndmibmmoikbaa
open Go.ChangeShapes Go.WideShapes Go.ChangeAt Go.RowKit Go.ChangeMaps Go.Joins Go.Deep
theorem fits_lifted (os : Os) (started : os.Started) (H : Type) (enc : TypeId × Value → H) :
 ReturnsInHanded {} Try.checked os 3 .any (Rows.proofFitsSpec.pre6 enc Try.prog Try.f3 Rows.proofFitsRow.domain false) (Rows.proofFitsSpec.post enc Try.prog Try.f3 false true false false) := by
 refine returnsInHanded_of_change (C := Try.checked) Try.own started (by kernel_rfl) Try.func3
  (ChangeSpec.witness6 (enc := enc) (C := Try.checked) false ⟨#[], #[.agg #[.int .i64 0, .int .i64 0, .int .i64 0], .slice none 0 0, .slice none 0 0, .slice none 0 0], []⟩ 8 (by kernel_rfl) (by kernel_rfl) (by kernel_rfl) (by kernel_rfl)) ?_
 intro W base args ds gs before hval0 hW hcnd _
 have hval : ∀ (j : Nat) t v, Try.f3.params[j]? = some t → args[j]? = some v → Value.okWide Try.prog W .any base t v := hval0
 have hW' := hW
 obtain ⟨p, q, hA0, hV, rfl, hfz, hnd⟩ := hW
 have hA : DataW.TrodAll enc Try.prog W 0 (fun _ => true) true Try.f3.params.toList args.toList ds p := hA0
 rw [Try.params3] at hA hval
 obtain ⟨v0, v1, v2, v3, d0, d1, d2, d3, p0, p1, p2, p3, rfl, rfl, rfl, h0, h1, h2, h3⟩ := trodAll_four hA
 obtain ⟨rfl, rfl⟩ := trodVars_none hV
 obtain ⟨a, b, c, rfl, rfl, rfl, wa, wb, wc⟩ := open_orders (hval 0 23 v0 rfl rfl) h0
 clear hA0 hval0
 simp only [List.append_nil, List.nil_append] at hW'
 have hlt : ∀ x, (x ∈ p1 ∨ x ∈ p2 ∨ x ∈ p3) → x.block < W.heap.size := fun x hx => hW'.lt x (by simpa using hx)
 obtain ⟨q1, n1, c1, f1, x1, rfl, t1⟩ := slice_at Try.underlying24 (hval 1 24 v1 rfl rfl) h1
 obtain ⟨q2, n2, c2, f2, x2, rfl, t2⟩ := slice_at Try.underlying25 (hval 2 25 v2 rfl rfl) h2
 obtain ⟨q3, n3, c3, f3, x3, rfl, t3⟩ := slice_at Try.underlying26 (hval 3 26 v3 rfl rfl) h3
 obtain ⟨ts, rfl, l1, m1, s1⟩ := open_strs9 t1
 obtain ⟨ps, rfl, l2, m2, s2⟩ := open_pairs t2
 obtain ⟨cys, rfl, l3, m3, s3⟩ := open_cycs t3
 refine (fits_law a b c ts ps cys q1 q2 q3 c1 c2 c3 W m1 m2 m3 l1 l2 l3 s1 s2 s3).mono fun e W' ⟨he, hb⟩ => ?_
 subst he
 refine ⟨_, rfl, law_post_mem hW' rfl rfl rfl ?_ rfl hb⟩
 have k1 := Below.trod Try.laidAll (by kernel_rfl) (of_decide_eq_true (by kernel_rfl)) h1 hb (fun x hx => hlt x (.inl hx))
 have k2 := Below.trod Try.laidAll (by kernel_rfl) (of_decide_eq_true (by kernel_rfl)) h2 hb (fun x hx => hlt x (.inr (.inl hx)))
 have k3 := Below.trod Try.laidAll (by kernel_rfl) (of_decide_eq_true (by kernel_rfl)) h3 hb (fun x hx => hlt x (.inr (.inr hx)))
 have k := trodAll_mk4 (shut_orders wa wb wc) k1 k2 k3
 rw [List.nil_append, ← List.append_assoc] at k
 exact k
theorem proofFits_holds : Rows.ProofFitsSaid :=
 OpenClaim.holds_of_wide 3 Try.f3 rfl rfl rfl rfl rfl rfl rfl ⟨rfl, rfl, rfl, rfl, rfl⟩ rfl rfl rfl rfl rfl (by kernel_rfl) Try.func3 (by kernel_rfl)
  (of_decide_eq_true (by kernel_rfl)) (by unfold Func.isWrapper; first | (rw [if_pos (by decide +kernel)]; kernel_rfl) | (rw [if_neg (by decide +kernel)]; exact ⟨rfl, rfl⟩))
  (fun os started H enc _ => fits_lifted os started H enc)
#print axioms proofFits_holds
end Go.Proofs.Ytkndmibmmoikbaa
