import Derived.Test.YtlhmfaelkkiahaaWords5
namespace Go.Proofs.Ytlhmfaelkkiahaa
open Go.RowKit
open Cox (Tl)
section
variable {K : Type} [Cox.OR K]

theorem inverse_yes (T : Cox.Tri K) (a b c : Nat) (hT : T.m = ords a b c) (l : List (Fin 3)) (he : errs a b c [wb l] = 0) (w : World) :
    Calls Try.prog 17 #[oval a b c, .string (wb l)] w fun e w' => e = .returned (.tuple #[.string (wb (Cox.nf T l.reverse)), .int .i64 0]) ∧ Below w.heap.size w w' := by
  obtain ⟨_, h60⟩ := errs_ok (ws := [l]) he
  have hl60 := h60 l (by simp)
  have HB := Lib.hid (fun (bl C : Nat) (w : World) (hbl : bl < w.heap.size) (hl : Strs w bl ([l].map wb)) => begun_st T a b c hT [l] bl C (by simp) w hbl hl he)
  have HBK := Lib.hid (fun w => back_any l (by omega) w)
  clear he h60
  unfold oval at *
  go_enter_defers Try.func17, Try.ntmps17
  go_wp2_with fail
  go_at_call 26
  refine (HB.out _ _ _ (by simp) (strs_one _ _ _ _ (by simp))).mono ?_
  rintro e wa ⟨p, F, rfl, hst⟩
  have HST := Lib.hid hst
  clear hst
  go_wp2_with fail
  go_at_call 31
  refine (HBK.out _).mono ?_
  rintro e wc ⟨rfl, hbc⟩
  have hst := HST.out.mono hbc
  have hst2 := hst.mono (((Below.refl _ _).alloc (Nat.le_refl _) (.cells #[.string (wb l.reverse)] 9)))
  have NS := normal_st hst2 [l.reverse] (by simp) (by intro x hx; have hx' : x = l.reverse := by simpa using hx
                                                      subst hx'; simp; omega) wc.heap.size 1 (by simp; omega) (by simp) (hst.rep.fresh (Nat.le_refl _)) (strs_one _ _ _ _ rfl)
  have HNS := Lib.hid NS
  clear NS hst2 hst hbc
  go_wp2_with fail
  go_at_call 27
  refine HNS.out.mono ?_
  rintro e wb2 ⟨A', st', P', rfl, hst3, _⟩
  have hb2 := hst3.below
  have q4 : wb2.cell? ⟨w.heap.size + 1, 0, none⟩ = some (.int .i64 0) := by rw [Below.cell (p := ⟨w.heap.size + 1, 0, none⟩) hb2 (by simp), World.cell?_alloc_past _ _ _ (by simp), World.cell?_alloc_at _ _ _ _ (by simp)]; rfl
  have q5 : wb2.frozen? ⟨w.heap.size + 1, 0, none⟩ = false := by rw [Below.frozen (p := ⟨w.heap.size + 1, 0, none⟩) hb2 (by simp), World.frozen?_alloc_past _ _ _ (by simp), World.frozen?_alloc_at _ _ _ _ (by simp)]
  have hb3 : Below w.heap.size w wb2 := ((((Below.refl _ _).alloc (Nat.le_refl _) _).alloc (by simp) _).alloc (by simp; omega) _).trans (hb2.mono (by simp; omega))
  have hb4 := hb3.setCell (p := ⟨w.heap.size + 1, 0, none⟩) (by simp) (.int .i64 0)
  have hfl : [l.reverse].flatten = l.reverse := by simp
  rw [hfl]
  have HB4 := Lib.hid hb4
  clear HNS hst3 hb2 hb3 hb4 hfl
  go_wp2_with fail
  refine leaves_cons (f := 25) (args := #[.pointer (some ⟨w.heap.size + 1, 0, none⟩)]) (by simp) (by simp [go_sem]) ?_
  refine (caught_idle ⟨w.heap.size + 1, 0, none⟩ _).mono ?_
  rintro e u' w'' ⟨rfl, rfl, rfl⟩
  have hb4 := HB4.out
  simp [Leaves, settle, results, Try.results17, go_sem, q4, hb4]
end
end Go.Proofs.Ytlhmfaelkkiahaa
