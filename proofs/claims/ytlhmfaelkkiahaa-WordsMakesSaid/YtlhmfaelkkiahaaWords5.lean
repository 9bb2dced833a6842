import Derived.Test.YtlhmfaelkkiahaaWords4
namespace Go.Proofs.Ytlhmfaelkkiahaa
open Go.RowKit
open Cox (Tl)

theorem Try.info5 : (Try.prog.info? 5).map (fun i => (i.zero, i.size, i.bytes)) = some (some (.int .u8 0), 1, 1) := by kernel_rfl

theorem times_no (a b c : Int) (s t : ByteArray) (hs : s.size ≤ maxLen) (ht : t.size ≤ maxLen) (he : errs a b c [s, t] ≠ 0) (w : World) :
    Calls Try.prog 15 #[oval a b c, .string s, .string t] w fun e w' => e = .returned (.tuple #[.string ⟨#[]⟩, .int .i64 (errs a b c [s, t])]) ∧ Below w.heap.size w w' := by
  have hst : ∀ x, x ∈ [s, t] → x.size ≤ maxLen := by
    intro x hx
    rcases List.mem_cons.1 hx with rfl | hx
    · exact hs
    · have : x = t := by simpa using hx
      subst this; exact ht
  have BN := fun (bl C : Nat) (w : World) (hbl : bl < w.heap.size) (hl : Strs w bl [s, t]) => begun_no a b c [s, t] bl C (by simp) hst w hbl hl he
  have HB := Lib.hid BN
  clear BN he hst
  generalize errs a b c [s, t] = r at *
  unfold oval at *
  go_enter_defers Try.func15, Try.ntmps15
  go_wp2_with fail
  go_at_call 26
  refine (HB.out _ _ _ (by simp) (strs_two _ _ _ _ _ (by simp))).mono ?_
  rintro e w2 ⟨rfl, hb2⟩
  have q4 : w2.cell? ⟨w.heap.size + 1, 0, none⟩ = some (.int .i64 0) := by rw [Below.cell (p := ⟨w.heap.size + 1, 0, none⟩) hb2 (by simp), World.cell?_alloc_past _ _ _ (by simp), World.cell?_alloc_at _ _ _ _ (by simp)]; rfl
  have q5 : w2.frozen? ⟨w.heap.size + 1, 0, none⟩ = false := by rw [Below.frozen (p := ⟨w.heap.size + 1, 0, none⟩) hb2 (by simp), World.frozen?_alloc_past _ _ _ (by simp), World.frozen?_alloc_at _ _ _ _ (by simp)]
  have hb3 : Below w.heap.size w w2 := ((((Below.refl _ _).alloc (Nat.le_refl _) _).alloc (by simp) _).alloc (by simp; omega) _).trans (hb2.mono (by simp; omega))
  refine leaves_cons (f := 25) (args := #[.pointer (some ⟨w.heap.size + 1, 0, none⟩)]) (by simp) (by simp [go_sem]) ?_
  refine (caught_panicking ⟨w.heap.size + 1, 0, none⟩ 0 r [] _ q4 q5).mono ?_
  rintro e u' w'' ⟨rfl, rfl, rfl⟩
  have hb4 := hb3.setCell (p := ⟨w.heap.size + 1, 0, none⟩) (by simp) (.int .i64 r)
  simp [Leaves, settle, results, Try.results15, go_sem, q4, hb4]

theorem inverse_no (a b c : Int) (s : ByteArray) (hs : s.size ≤ maxLen) (he : errs a b c [s] ≠ 0) (w : World) :
    Calls Try.prog 17 #[oval a b c, .string s] w fun e w' => e = .returned (.tuple #[.string ⟨#[]⟩, .int .i64 (errs a b c [s])]) ∧ Below w.heap.size w w' := by
  have BN := fun (bl C : Nat) (w : World) (hbl : bl < w.heap.size) (hl : Strs w bl [s]) => begun_no a b c [s] bl C (by simp) (by simpa using hs) w hbl hl he
  have HB := Lib.hid BN
  clear BN he
  generalize errs a b c [s] = r at *
  unfold oval at *
  go_enter_defers Try.func17, Try.ntmps17
  go_wp2_with fail
  go_at_call 26
  refine (HB.out _ _ _ (by simp) (strs_one _ _ _ _ (by simp))).mono ?_
  rintro e w2 ⟨rfl, hb2⟩
  have q4 : w2.cell? ⟨w.heap.size + 1, 0, none⟩ = some (.int .i64 0) := by rw [Below.cell (p := ⟨w.heap.size + 1, 0, none⟩) hb2 (by simp), World.cell?_alloc_past _ _ _ (by simp), World.cell?_alloc_at _ _ _ _ (by simp)]; rfl
  have q5 : w2.frozen? ⟨w.heap.size + 1, 0, none⟩ = false := by rw [Below.frozen (p := ⟨w.heap.size + 1, 0, none⟩) hb2 (by simp), World.frozen?_alloc_past _ _ _ (by simp), World.frozen?_alloc_at _ _ _ _ (by simp)]
  have hb3 : Below w.heap.size w w2 := ((((Below.refl _ _).alloc (Nat.le_refl _) _).alloc (by simp) _).alloc (by simp; omega) _).trans (hb2.mono (by simp; omega))
  refine leaves_cons (f := 25) (args := #[.pointer (some ⟨w.heap.size + 1, 0, none⟩)]) (by simp) (by simp [go_sem]) ?_
  refine (caught_panicking ⟨w.heap.size + 1, 0, none⟩ 0 r [] _ q4 q5).mono ?_
  rintro e u' w'' ⟨rfl, rfl, rfl⟩
  have hb4 := hb3.setCell (p := ⟨w.heap.size + 1, 0, none⟩) (by simp) (.int .i64 r)
  simp [Leaves, settle, results, Try.results17, go_sem, q4, hb4]

section
variable {K : Type} [Cox.OR K]

theorem times_yes (T : Cox.Tri K) (a b c : Nat) (hT : T.m = ords a b c) (u v : List (Fin 3)) (he : errs a b c [wb u, wb v] = 0) (w : World) :
    Calls Try.prog 15 #[oval a b c, .string (wb u), .string (wb v)] w fun e w' => e = .returned (.tuple #[.string (wb (Cox.nf T (u ++ v))), .int .i64 0]) ∧ Below w.heap.size w w' := by
  obtain ⟨_, h60⟩ := errs_ok (ws := [u, v]) he
  have hu := h60 u (by simp)
  have hv := h60 v (by simp)
  have HB := Lib.hid (fun (bl C : Nat) (w : World) (hbl : bl < w.heap.size) (hl : Strs w bl ([u, v].map wb)) => begun_st T a b c hT [u, v] bl C (by simp) w hbl hl he)
  clear he h60
  unfold oval at *
  go_enter_defers Try.func15, Try.ntmps15
  go_wp2_with fail
  go_at_call 26
  refine (HB.out _ _ _ (by simp) (strs_two _ _ _ _ _ (by simp))).mono ?_
  rintro e wa ⟨p, F, rfl, hst⟩
  have hst2 := hst.mono (((Below.refl _ _).alloc (Nat.le_refl _) (.cells #[.string (wb u), .string (wb v)] 9)))
  have hlen : ∀ l, l ∈ [u, v] → l.length < 1000 := by
    intro x hx
    rcases List.mem_cons.1 hx with rfl | hx
    · omega
    · have : x = v := by simpa using hx
      subst this; omega
  have NS := normal_st hst2 [u, v] (by simp) hlen wa.heap.size 2 (by simp; omega) (by simp) (hst.rep.fresh (Nat.le_refl _)) (strs_two _ _ _ _ _ rfl)
  have HNS := Lib.hid NS
  clear NS hst2 hst hlen
  go_wp2_with fail
  go_at_call 27
  refine HNS.out.mono ?_
  rintro e wb2 ⟨A', st', P', rfl, hst3, _⟩
  have hb2 := hst3.below
  have q4 : wb2.cell? ⟨w.heap.size + 1, 0, none⟩ = some (.int .i64 0) := by rw [Below.cell (p := ⟨w.heap.size + 1, 0, none⟩) hb2 (by simp), World.cell?_alloc_past _ _ _ (by simp), World.cell?_alloc_at _ _ _ _ (by simp)]; rfl
  have q5 : wb2.frozen? ⟨w.heap.size + 1, 0, none⟩ = false := by rw [Below.frozen (p := ⟨w.heap.size + 1, 0, none⟩) hb2 (by simp), World.frozen?_alloc_past _ _ _ (by simp), World.frozen?_alloc_at _ _ _ _ (by simp)]
  have hb3 : Below w.heap.size w wb2 := ((((Below.refl _ _).alloc (Nat.le_refl _) _).alloc (by simp) _).alloc (by simp; omega) _).trans (hb2.mono (by simp; omega))
  have hb4 := hb3.setCell (p := ⟨w.heap.size + 1, 0, none⟩) (by simp) (.int .i64 0)
  have hfl : [u, v].flatten = u ++ v := by simp
  rw [hfl]
  have HB4 := Lib.hid hb4
  clear HNS hst3 hb2 hb3 hb4 hfl
  go_wp2_with fail
  refine leaves_cons (f := 25) (args := #[.pointer (some ⟨w.heap.size + 1, 0, none⟩)]) (by simp) (by simp [go_sem]) ?_
  refine (caught_idle ⟨w.heap.size + 1, 0, none⟩ _).mono ?_
  rintro e u' w'' ⟨rfl, rfl, rfl⟩
  have hb4 := HB4.out
  simp [Leaves, settle, results, Try.results15, go_sem, q4, hb4]

end

theorem wb_get (l : List (Fin 3)) (i : Nat) (h : i < (wb l).size) (h' : i < l.length) : ((wb l)[i]'h).toNat = (l[i]'h').val := by
  have e : (wb l).data = (l.map fun i : Fin 3 => UInt8.ofNat i.val).toArray := rfl
  have h2 : (wb l)[i]'h = UInt8.ofNat (l[i]'h').val := by
    show (wb l).data[i]'_ = _
    simp [e]
  rw [h2]
  have := (l[i]'h').isLt
  simp
  omega

theorem index_wb (l : List (Fin 3)) (i : Nat) (h : i < l.length) (W : World) : (Instr.index 9 (.string (wb l)) (.int .i64 (i : Int))).run Try.prog W = .ok (.int .u8 ((l[i]'h).val : Int)) W := by
  have hs : i < (wb l).size := by rw [wb_size]; exact h
  have e : ((l[i]'h).val : Int) = (((wb l)[i]'hs).toNat : Int) := by rw [wb_get l i hs h]
  rw [e]
  simp [go_sem, hs]

/-- Back -/
theorem back_any (l : List (Fin 3)) (hl : l.length < 100000) (w : World) : Calls Try.prog 31 #[.string (wb l)] w fun e w' => e = .returned (.string (wb l.reverse)) ∧ Below w.heap.size w w' := by
  have hsz := wb_size l
  obtain ⟨i0, hi, hz0, hz1, hz2⟩ := info_parts Try.info5
  have hmk := run_make (P := Try.prog) w 76 5 i0 (.int .u8 0) Try.underlying76 hi hz0 .i64 .i64 l.length l.length (by omega) (Int.le_refl _) (by rw [hz2]; omega) (by omega)
  rw [hz1] at hmk
  simp only [Int.toNat_natCast, Nat.mul_one] at hmk
  have hb1 : Below w.heap.size w (w.alloc (.cells (madeCells (Value.int .u8 0).cells l.length) 5)) := (Below.refl _ _).alloc (Nat.le_refl _) _
  have hc1 := str_new w (madeCells (Value.int .u8 0).cells l.length) 5 _ rfl
  have hs1 := size_madeCells (Value.int .u8 0).cells l.length
  generalize madeCells (Value.int .u8 0).cells l.length = cs0 at *
  generalize hW1 : w.alloc (.cells cs0 5) = W1 at *
  have hcv : ∀ W : World, (∀ i (h : i < l.length), W.cell? ⟨w.heap.size, i, none⟩ = some (.int .u8 ((l.reverse[i]'(by simpa using h)).val : Int))) →
      (convert 76 9 (.slice (some ⟨w.heap.size, 0, none⟩) l.length l.length)).run Try.prog W = .ok (.string (wb l.reverse)) W := by
    intro W hW
    rw [run_convert_bytes_arg W 76 5 Try.underlying76 Try.underlying5 w.heap.size 0 l.length l.length (l.reverse.map fun i : Fin 3 => (i.val : Int)) (by simp) ?_ 9 Try.underlying9]
    · have : strOfNums (l.reverse.map fun i : Fin 3 => (i.val : Int)) = wb l.reverse := by
        unfold strOfNums wb
        rw [List.map_map]
        rfl
      rw [this]
    · intro i hi
      rw [Nat.zero_add, hW i hi]
      have : (l.reverse.map fun i : Fin 3 => (i.val : Int)).getD i 0 = ((l.reverse[i]'(by simpa using hi)).val : Int) := by
        rw [List.getD, List.getElem?_map, List.getElem?_eq_getElem (by simpa using hi)]; rfl
      rw [this]
  have HCV := Lib.hid hcv
  have HB1 := Lib.hid hb1
  have HC1 := Lib.hid (And.intro hc1 hs1)
  have HW1 := Lib.hid hW1
  have HIX := Lib.hid (fun i h W => index_wb l i h W)
  have HSZ := Lib.hid hsz
  have hsb : (wb l).size < 100000 := by omega
  clear hcv hb1 hc1 hs1 hW1 hi hz0 hz1 hz2 hsz
  rw [← HSZ.out] at hmk
  go_enter Try.func31, Try.ntmps31
  go_wp2_with fail
  go_loopw [10] (fun t wr => ∃ (j : Nat) (cs : Array Value), t = .int .i64 j ∧ j ≤ l.length ∧ Hid (wr.heap[w.heap.size]? = some (.cells cs 5 (0, 0)) ∧ cs.size = l.length ∧ (∀ i (h : i < l.length), i < j → cs[i]? = some (.int .u8 ((l.reverse[i]'(by simpa using h)).val : Int))) ∧ Below w.heap.size w wr)) (fun t _ => l.length - (intOf t).toNat)
  case atStart => exact ⟨0, cs0, rfl, Nat.zero_le _, Lib.hid ⟨HC1.out.1, HC1.out.2, fun i h hi => by omega, HB1.out⟩⟩
  case round =>
    obtain ⟨j, cs, rfl, hj, HJ⟩ := hrel
    by_cases hlt : j < l.length
    · have hl1 : l.length - 1 - j < l.length := by omega
      obtain ⟨x, hx⟩ : ∃ x, x = l[l.length - 1 - j]'hl1 := ⟨_, rfl⟩
      have hix := HIX.out (l.length - 1 - j) hl1
      rw [← hx] at hix
      have hrev : (l.reverse[j]'(by simpa using hlt)) = x := by rw [hx]; simp
      have HREV := Lib.hid hrev
      have hcast : ((l.length - 1 - j : Nat) : Int) = (l.length : Int) - 1 - (j : Int) := by omega
      rw [hcast] at hix
      obtain ⟨v0, hv0⟩ : ∃ v, cs[j]? = some v := ⟨_, Array.getElem?_eq_getElem (by rw [HJ.out.2.1]; exact hlt)⟩
      have hcj := cell_of HJ.out.1 j
      rw [hv0] at hcj
      have hfj := free_of HJ.out.1 j
      have hb3 : (x.val : Int) < 3 := by have := x.isLt; omega
      clear hrev hcast hv0 hx
      have hlt' : j < (wb l).size := by rw [HSZ.out]; exact hlt
      rw [← HSZ.out] at hix
      go_wp2_with fail
      go_roundw
      case rel =>
        refine ⟨j + 1, cs.setIfInBounds j (.int .u8 (x.val : Int)), by go_num, by omega, Lib.hid ⟨?_, by rw [Array.size_setIfInBounds]; exact HJ.out.2.1, ?_, HJ.out.2.2.2.setCell (by simp) _⟩⟩
        · rw [heap_setCell _ _ _ _ _ HJ.out.1, if_pos rfl]
        · intro i h hi
          rw [Array.getElem?_setIfInBounds]
          by_cases e : j = i
          · subst e
            rw [if_pos rfl, if_pos (by rw [HJ.out.2.1]; exact hlt), HREV.out]
          · rw [if_neg e]; exact HJ.out.2.2.1 i h (by omega)
      case measure => simp [intOf]; omega
    · have hcv := HCV.out _ (fun i h => by rw [cell_of HJ.out.1]; exact HJ.out.2.2.1 i h (by omega))
      rw [← HSZ.out] at hcv
      have hge : ¬ j < (wb l).size := by rw [HSZ.out]; exact hlt
      go_wp2_with fail
      go_ret
      exact ⟨rfl, HJ.out.2.2.2⟩
end Go.Proofs.Ytlhmfaelkkiahaa
