import Derived.Test.YtlhmfaelkkiahaaStep0
import Derived.Test.YtlhmfaelkkiahaaStep1
import Derived.Test.YtlhmfaelkkiahaaStep2
import Derived.Lib.ConvBytes
namespace Go.Proofs.Ytlhmfaelkkiahaa
open Go.RowKit
open Cox (Tl)

theorem step_say (m : Fin 3 → Fin 3 → Nat) (hm : ∀ i j, m i j < 100) (f : Nat) (hf : f < 1000000) : StepSaid m f := by
  induction f with
  | zero => intro A st x s w st' y p F _ _ _ _ h; simp [Cox.step] at h
  | succ f ih =>
    have ih := ih (by omega)
    intro A st x s w st' y p F hr hx hp hpA hstep
    have hnx : st[x]? = some st[x] := List.getElem?_eq_getElem hx
    generalize st[x] = nd at hnx
    have hc := hr.cells x nd hnx
    cases hts : nd.to s with
    | some y0 =>
      have hstep2 := hstep
      simp only [Cox.step, hnx, Option.bind_some, hts] at hstep2
      have hlen : ¬ f < nd.word.length := by intro h; rw [if_pos h] at hstep2; cases hstep2
      rw [if_neg hlen] at hstep2
      simp only [Option.some.injEq, Prod.mk.injEq] at hstep2
      obtain ⟨rfl, rfl⟩ := hstep2
      have c1 := cell_of hc 1
      have c2 := cell_of hc 2
      have c3 := cell_of hc 3
      simp [tcells] at c1 c2 c3
      have hfin : ∃ A', Ending.returned (.pointer (some ⟨A y0, 0, none⟩)) = .returned (.pointer (some ⟨A' y0, 0, none⟩)) ∧ y0 < st.length ∧ Grows w A st w A' st :=
        ⟨A, rfl, hr.closed x nd s y0 hnx hts, Grows.refl hr⟩
      have HF := Lib.hid hfin
      clear hfin hr hnx hp hpA hc ih hstep hlen
      generalize A x = a at *
      match s with
      | 0 =>
        rw [hts] at c1
        simp only [pv] at c1
        clear hts
        go_enter Try.func44, Try.ntmps44
        go_wp2_with fail
        go_ret
        exact HF.out
      | 1 =>
        rw [hts] at c2
        simp only [pv] at c2
        clear hts
        go_enter Try.func44, Try.ntmps44
        go_wp2_with fail
        go_ret
        exact HF.out
      | 2 =>
        rw [hts] at c3
        simp only [pv] at c3
        clear hts
        go_enter Try.func44, Try.ntmps44
        go_wp2_with fail
        go_ret
        exact HF.out
    | none =>
      match s with
      | 0 => exact step_walk0 m hm f (by omega) ih A st x w st' y p F hr hp hpA nd hnx hts hstep
      | 1 => exact step_walk1 m hm f (by omega) ih A st x w st' y p F hr hp hpA nd hnx hts hstep
      | 2 => exact step_walk2 m hm f (by omega) ih A st x w st' y p F hr hp hpA nd hnx hts hstep

/-- bytes of a string in a new row -/
theorem bytes_grows {w : World} {A : Nat → Nat} {st : List Tl} (hr : Rep w A st) (l : List (Fin 3)) :
    ∃ C W1, (convert 9 76 (.string (wb l))).run Try.prog w = .ok (.slice (some ⟨w.heap.size, 0, none⟩) l.length C) W1 ∧ Grows w A st W1 A st ∧
      ∃ o, W1.heap[w.heap.size]? = some o ∧ ∀ W2 : World, W2.heap[w.heap.size]? = some o → ∀ j (h : j < l.length), W2.cell? ⟨w.heap.size, j, none⟩ = some (.int .u8 (l[j].val : Int)) := by
  have h := Lib.run_convert_string_bytes (P := Try.prog) w 9 76 5 (wb l) Try.underlying9 Try.underlying76 Try.underlying5
  rw [wb_size] at h
  refine ⟨_, _, h, ?_, _, Lib.bytesWorld_at_new w 5 (wb l), ?_⟩
  · refine ⟨⟨fun k nk hk => ?_, hr.inj, hr.closed⟩, Nat.le_refl _, fun _ _ => rfl, fun k h1 h2 => by omega, ⟨rfl, rfl, rfl, ?_, fun b hb _ => Lib.bytesWorld_at_old w 5 (wb l) b hb⟩⟩
    · rw [Lib.bytesWorld_at_old w 5 (wb l) _ (hr.lt (List.getElem?_eq_some_iff.1 hk).1)]
      exact hr.cells k nk hk
    · rw [Lib.bytesWorld_size]; omega
  · intro W2 hW j hj
    rw [cell_of hW]
    have hj' : j < (wb l).size := by rw [wb_size]; exact hj
    have e : (Lib.bytesCells w 5 (wb l))[j]? = some (.int .u8 (((wb l).data.toList.getD j 0).toNat)) := by
      simp [Lib.bytesCells, Array.getElem?_append, List.getD, hj']
    rw [e]
    have : ((wb l).data.toList.getD j 0).toNat = l[j].val := by
      simp only [wb, List.getD]
      rw [List.getElem?_map, List.getElem?_eq_getElem hj]
      simp
      have := l[j].isLt
      omega
    rw [this]

theorem walk_say (m : Fin 3 → Fin 3 → Nat) (hm : ∀ i j, m i j < 100) (f : Nat) (hf : f < 1000000) (A : Nat → Nat) (st : List Tl) (x : Nat) (l : List (Fin 3)) (w : World) (st' : List Tl) (y p F : Nat) (hr : Rep w A st) (hx : x < st.length)
    (hp : w.heap[p]? = some (.cells (pcells m F) 65 (0, 0))) (hpA : ¬ In A st.length p) (hl : l.length < 1000000) (hw : Cox.walk m f st x l = some (st', y)) :
    Calls Try.prog 37 #[.pointer (some ⟨p, 0, none⟩), .pointer (some ⟨A x, 0, none⟩), .string (wb l)] w fun e w' =>
      ∃ A', e = .returned (.pointer (some ⟨A' y, 0, none⟩)) ∧ y < st'.length ∧ Grows w A st w' A' st' := by
  have ST := Lib.hid (step_say m hm f hf)
  obtain ⟨C, W1, hcv, hg1, o, ho, hcell⟩ := bytes_grows hr l
  have hnA : ¬ In A st.length w.heap.size := by
    rintro ⟨k, hk, he⟩
    have := hr.lt hk; omega
  have hp1 := (hg1.plane hp hpA).1
  have HG1 := Lib.hid hg1
  have HO := Lib.hid ho
  have HCELL := Lib.hid hcell
  have HP := Lib.hid hp1
  have HPA := Lib.hid hpA
  have HNA := Lib.hid hnA
  have HW := Lib.hid hw
  have HX := Lib.hid hx
  clear hg1 ho hcell hp hp1 hpA hnA hw hr hx
  go_enter Try.func37, Try.ntmps37
  go_wp2_with fail
  go_loopw [1, 12] (fun tt cc wr => ∃ (j xj : Nat) (Aj : Nat → Nat) (stj : List Tl), j ≤ l.length ∧ tt = .pointer (some ⟨Aj xj, 0, none⟩) ∧ cc = .int .i64 j ∧ Hid (Cox.walk m f stj xj (l.drop j) = some (st', y) ∧ Grows W1 A st wr Aj stj ∧ xj < stj.length)) (fun _ cc _ => l.length - (intOf cc).toNat)
  case atStart => exact ⟨0, x, A, st, Nat.zero_le _, rfl, rfl, Lib.hid ⟨HW.out, Grows.refl HG1.out.rep, HX.out⟩⟩
  case round =>
    obtain ⟨j, xj, Aj, stj, hj, rfl, rfl, HJ⟩ := hrel
    by_cases hlt : j < l.length
    · have hwk := HJ.out.1
      rw [List.drop_eq_getElem_cons hlt] at hwk
      simp only [Cox.walk] at hwk
      cases hs : Cox.step m f stj xj l[j] with
      | none => rw [hs] at hwk; cases hwk
      | some r =>
        rw [hs] at hwk
        simp only [Option.bind_some] at hwk
        have hpl := HJ.out.2.1.plane HP.out HPA.out
        have CS := ST.out Aj stj xj l[j] _ r.1 r.2 p F HJ.out.2.1.rep HJ.out.2.2 hpl.1 hpl.2 hs
        have ho := (HJ.out.2.1.plane HO.out HNA.out).1
        have hcj := HCELL.out _ ho j hlt
        have hb : (l[j].val : Int) < 3 := by have := l[j].isLt; omega
        have hb0 : (0 : Int) ≤ (l[j].val : Int) := by omega
        have HWK := Lib.hid hwk
        clear hwk hs hpl ho
        generalize hlj : l[j] = lj at *
        have HLJ := Lib.hid hlj
        clear hlj
        go_wp2_with (go_at_call 44; refine CS.mono ?_; rintro e w3 ⟨A3, rfl, hx3, hg3⟩)
        have HG3 := Lib.hid hg3
        clear hg3
        go_wp2_with fail
        go_roundw
        case rel => exact ⟨j + 1, r.2, A3, r.1, by omega, rfl, by go_num, Lib.hid ⟨HWK.out, HJ.out.2.1.trans HG3.out, hx3⟩⟩
        case measure => simp [intOf]; omega
    · have hwk := HJ.out.1
      rw [List.drop_eq_nil_of_le (by omega)] at hwk
      simp only [Cox.walk, Option.some.injEq, Prod.mk.injEq] at hwk
      obtain ⟨rfl, rfl⟩ := hwk
      go_wp2_with fail
      go_ret
      exact ⟨Aj, rfl, HJ.out.2.2, HG1.out.trans HJ.out.2.1⟩
end Go.Proofs.Ytlhmfaelkkiahaa
