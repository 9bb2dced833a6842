/-
 Proved: where what is handed over is of bulk at most 1048576 (the given statement's own bound), the law ProofStays returns true, and each argument reads behind the call as it read before. No other condition is laid on the input.
-/
import Derived.Test.YtkndmibmmoikbaaD43
import Derived.JoinedCond
set_option linter.all false
set_option maxRecDepth 100000
set_option maxHeartbeats 16000000
namespace Go.Proofs.Ytkndmibmmoikbaa
open Go.ChangeShapes Go.WideShapes Go.ChangeAt Go.RowKit Go.ChangeMaps Go.Joins Go.Deep
theorem trodAll_six {H : Type} {enc : TypeId × Value → H} {P : Program} {w : World} {base : Nat} {spare : Nat → Bool} {held : Bool} {t0 t1 t2 t3 t4 t5 : TypeId} {args : Array Value} {ds : List (DataW H)} {ps : List MemPlace} (h : DataW.TrodAll enc P w base spare held [t0, t1, t2, t3, t4, t5] args.toList ds ps) :
 ∃ v0 v1 v2 v3 v4 v5 d0 d1 d2 d3 d4 d5 p0 p1 p2 p3 p4 p5, args = #[v0, v1, v2, v3, v4, v5] ∧ ds = [d0, d1, d2, d3, d4, d5] ∧ ps = p0 ++ (p1 ++ (p2 ++ (p3 ++ (p4 ++ p5)))) ∧ DataW.Trod enc P w base spare held t0 v0 d0 p0 ∧ DataW.Trod enc P w base spare held t1 v1 d1 p1 ∧
  DataW.Trod enc P w base spare held t2 v2 d2 p2 ∧ DataW.Trod enc P w base spare held t3 v3 d3 p3 ∧ DataW.Trod enc P w base spare held t4 v4 d4 p4 ∧ DataW.Trod enc P w base spare held t5 v5 d5 p5 := by
 obtain ⟨v0, vs, d0, ds', p0, q, hargs, rfl, rfl, h0, hr0⟩ := trodAll_cons h
 obtain ⟨v1, vs1, d1, ds1, p1, q1, rfl, rfl, rfl, h1, hr1⟩ := trodAll_cons hr0
 obtain ⟨v2, vs2, d2, ds2, p2, q2, rfl, rfl, rfl, h2, hr2⟩ := trodAll_cons hr1
 obtain ⟨v3, vs3, d3, ds3, p3, q3, rfl, rfl, rfl, h3, hr3⟩ := trodAll_cons hr2
 obtain ⟨v4, vs4, d4, ds4, p4, q4, rfl, rfl, rfl, h4, hr4⟩ := trodAll_cons hr3
 obtain ⟨v5, vs5, d5, ds5, p5, q5, rfl, rfl, rfl, h5, hr5⟩ := trodAll_cons hr4
 obtain ⟨rfl, rfl, rfl⟩ := trodAll_nil hr5
 exact ⟨v0, v1, v2, v3, v4, v5, d0, d1, d2, d3, d4, d5, p0, p1, p2, p3, p4, p5, by cases args; simp_all, rfl, by simp, h0, h1, h2, h3, h4, h5⟩
theorem stays_lifted (os : Os) (started : os.Started) (H : Type) (enc : TypeId × Value → H) (F : Stop.Interp) :
 ReturnsInHanded {} Try.checked os 4 .any ((Rows.OpenSpec.upto Rows.proofStaysSpec).pre6 enc Try.prog Try.f4 Rows.proofStaysUptoRow.domain false) (((Rows.OpenSpec.upto Rows.proofStaysSpec).at F).post enc Try.prog Try.f4 false true false false) := by
 refine returnsInHanded_of_cond (C := Try.checked) (s := Rows.OpenSpec.upto Rows.proofStaysSpec) (k := Rows.uptoSmall) rfl Try.own started (by kernel_rfl) Try.func4
  (OpenSpec.witness (enc := enc) (C := Try.checked) (s := Rows.OpenSpec.upto Rows.proofStaysSpec) (k := Rows.uptoSmall) rfl false ⟨#[], #[.agg #[.int .i64 0, .int .i64 0, .int .i64 0], .slice none 0 0, .slice none 0 0, .slice none 0 0, .slice none 0 0, .slice none 0 0], []⟩ 8 (by kernel_rfl) (by kernel_rfl) (by kernel_rfl)
    (x := ([.agg [.lit (.int .i64 0), .lit (.int .i64 0), .lit (.int .i64 0)], .nil, .nil, .nil, .nil, .nil], [], [])) (by kernel_rfl) (by kernel_rfl) (by kernel_rfl)) ?_
 intro W base args ds gs before hval0 hW _ hkk _
 have hval : ∀ (j : Nat) t v, Try.f4.params[j]? = some t → args[j]? = some v → Value.okWide Try.prog W .any base t v := hval0
 have hW' : DataW.Whole enc Try.prog Try.f4.params.toList [] false W args.toList ds gs before := hW
 obtain ⟨p, q, hA0, hV, rfl, hfz, hnd⟩ := hW
 have hA : DataW.TrodAll enc Try.prog W 0 (fun _ => true) true Try.f4.params.toList args.toList ds p := hA0
 rw [Try.params4] at hA hval
 obtain ⟨v0, v1, v2, v3, v4, v5, d0, d1, d2, d3, d4, d5, p0, p1, p2, p3, p4, p5, rfl, rfl, rfl, h0, h1, h2, h3, h4, h5⟩ := trodAll_six hA
 obtain ⟨rfl, rfl⟩ := trodVars_none hV
 obtain ⟨a, b, c, rfl, rfl, rfl, wa, wb, wc⟩ := open_orders (hval 0 23 v0 rfl rfl) h0
 clear hA0 hval0
 simp only [List.append_nil, List.nil_append] at hW' hkk
 have hlt : ∀ x, (x ∈ p1 ∨ x ∈ p2 ∨ x ∈ p3 ∨ x ∈ p4 ∨ x ∈ p5) → x.block < W.heap.size := fun x hx => hW'.lt x (by simpa using hx)
 have hbk : Rows.uptoBulkAll [.agg [.lit (.int .i64 a), .lit (.int .i64 b), .lit (.int .i64 c)], d1, d2, d3, d4, d5] ≤ 1048576 := by
  unfold Rows.uptoSmall at hkk
  exact of_decide_eq_true hkk
 have b1 : Rows.uptoBulk d1 ≤ 1048576 := Nat.le_trans (bulk_mem (by simp)) hbk
 have b2 : Rows.uptoBulk d2 ≤ 1048576 := Nat.le_trans (bulk_mem (by simp)) hbk
 obtain ⟨q1, n1, c1, f1, rfl, t1⟩ := slice_at2 Try.underlying24 (hval 1 24 v1 rfl rfl) h1
 obtain ⟨q2, n2, c2, f2, rfl, t2⟩ := slice_at2 Try.underlying25 (hval 2 25 v2 rfl rfl) h2
 obtain ⟨q3, n3, c3, f3, rfl, t3⟩ := slice_at2 Try.underlying26 (hval 3 26 v3 rfl rfl) h3
 obtain ⟨q4, n4, c4, f4, rfl, t4⟩ := slice_at2 Try.underlying33 (hval 4 33 v4 rfl rfl) h4
 obtain ⟨q5, n5, c5, f5, rfl, t5⟩ := slice_at2 Try.underlying34 (hval 5 34 v5 rfl rfl) h5
 have k1 := nil_ok Try.underlying24 t1
 have k2 := nil_ok Try.underlying25 t2
 have k4 := nil_ok Try.underlying33 t4
 have k5 := nil_ok Try.underlying34 t5
 have u1 := bulk_slice Try.underlying24 t1
 have u2 := bulk_slice Try.underlying25 t2
 simp only at u1 u2
 obtain ⟨ts, rfl, l1, m1, s1⟩ := open_strs9 t1
 obtain ⟨ps, rfl, l2, m2, s2⟩ := open_pairs t2
 obtain ⟨cys, rfl, l3, m3, s3⟩ := open_cycs2 t3
 obtain ⟨rs, rfl, l4, m4⟩ := open_ints3 t4
 obtain ⟨ss, rfl, l5, m5⟩ := open_steps43 t5
 refine (stays_law a b c ts ps cys rs ss q1 q2 q3 q4 q5 c1 c2 c3 c4 c5 W m1 m2 m3 m4 m5 (by omega) (by omega) l3 l4 l5 s1 s2 (fun y hy => (s3 y hy).1) k1 k2 (fun y hy => (s3 y hy).2) k4 k5).mono fun e W' ⟨he, hb⟩ => ?_
 subst he
 refine ⟨_, rfl, law_post_mem hW' rfl rfl rfl ?_ rfl hb⟩
 have g1 := Below.trod Try.laidAll (by kernel_rfl) (of_decide_eq_true (by kernel_rfl)) h1 hb (fun x hx => hlt x (.inl hx))
 have g2 := Below.trod Try.laidAll (by kernel_rfl) (of_decide_eq_true (by kernel_rfl)) h2 hb (fun x hx => hlt x (.inr (.inl hx)))
 have g3 := Below.trod Try.laidAll (by kernel_rfl) (of_decide_eq_true (by kernel_rfl)) h3 hb (fun x hx => hlt x (.inr (.inr (.inl hx))))
 have g4 := Below.trod Try.laidAll (by kernel_rfl) (of_decide_eq_true (by kernel_rfl)) h4 hb (fun x hx => hlt x (.inr (.inr (.inr (.inl hx)))))
 have g5 := Below.trod Try.laidAll (by kernel_rfl) (of_decide_eq_true (by kernel_rfl)) h5 hb (fun x hx => hlt x (.inr (.inr (.inr (.inr hx)))))
 exact ⟨[], _, shut_orders wa wb wc, ⟨p1, _, g1, trodAll_mk4 g2 g3 g4 g5, rfl⟩, rfl⟩
theorem proofStays_holds : Rows.ProofStaysUptoSaid :=
 OpenClaim.holds_of_cond 4 Try.f4 rfl rfl rfl rfl rfl rfl rfl ⟨rfl, rfl, rfl, rfl, rfl⟩ rfl rfl rfl rfl rfl (by kernel_rfl) Try.func4 (by kernel_rfl)
  (of_decide_eq_true (by kernel_rfl)) (by unfold Func.isWrapper; first | (rw [if_pos (by decide +kernel)]; kernel_rfl) | (rw [if_neg (by decide +kernel)]; exact ⟨rfl, rfl⟩))
  (fun os started H enc _ F => stays_lifted os started H enc F)
#print axioms proofStays_holds
end Go.Proofs.Ytkndmibmmoikbaa
