import Derived.Test.YtlhmfaelkkiahaaLaw0
namespace Go.Proofs.Ytlhmfaelkkiahaa
open Go.RowKit
open Cox (Tl)

/-- orders in a box -/
def AtO (a b c : Int) (B : Nat) (w : World) : Prop := w.cell? ⟨B, 0, none⟩ = some (.int .i64 a) ∧ w.cell? ⟨B, 1, none⟩ = some (.int .i64 b) ∧ w.cell? ⟨B, 2, none⟩ = some (.int .i64 c) ∧ B < w.heap.size
theorem AtO.below {a b c : Int} {B : Nat} {w w' : World} (h : AtO a b c B w) (hb : Below w.heap.size w w') : AtO a b c B w' := by
  obtain ⟨h1, h2, h3, h4⟩ := h
  exact ⟨by rw [Below.cell (p := ⟨B, 0, none⟩) hb h4]; exact h1, by rw [Below.cell (p := ⟨B, 1, none⟩) hb h4]; exact h2, by rw [Below.cell (p := ⟨B, 2, none⟩) hb h4]; exact h3, Nat.lt_of_lt_of_le h4 hb.size⟩
theorem AtO.new (a b c : Int) (w : World) : AtO a b c w.heap.size (w.alloc (.cells #[.int .i64 a, .int .i64 b, .int .i64 c] 23)) := by
  have := str_new w #[.int .i64 a, .int .i64 b, .int .i64 c] 23 _ rfl
  exact ⟨cell_of this 0, cell_of this 1, cell_of this 2, by simp⟩
/-- a contract, told over a box of orders -/
theorem overO {p : FuncId} {args : Array Value} {r : Value} (h : ∀ w, Calls Try.prog p args w fun e w' => e = .returned r ∧ Below w.heap.size w w') (a b c : Int) (w0 : World) (B : Nat) (w : World) (ha : AtO a b c B w) (hb : Below w0.heap.size w0 w) :
    Calls Try.prog p args w fun e w' => e = .returned r ∧ AtO a b c B w' ∧ Below w0.heap.size w0 w' := (h w).mono fun _ _ hh => ⟨hh.1, ha.below hh.2, hb.trans (hh.2.mono hb.size)⟩

theorem least_no (a b c : Int) (s t : ByteArray) (hs : s.size ≤ maxLen) (ht : t.size ≤ maxLen) (k : Int) (he : errs a b c [s, t] ≠ 0) (w : World) :
    Calls Try.prog 4 #[oval a b c, .string s, .string t, .int .i64 k] w fun e w' => e = .returned (.bool true) ∧ Below w.heap.size w w' := by
  have HE := Lib.hid (fun (bl C : Nat) (w : World) (hbl : bl < w.heap.size) (hl : Strs w bl [s, t]) => errors_any a b c [s, t] bl C (by simp) (fun x hx => by
    rcases List.mem_cons.1 hx with rfl | hx
    · exact hs
    · have : x = t := by simpa using hx
      subst this; exact ht) w hbl hl)
  have HS := Lib.hid (fun w => overO sane_any a b c w)
  generalize errs a b c [s, t] = r at *
  have hr : (r == 0) = false := by simpa using he
  clear he
  unfold oval at *
  have ha := AtO.new a b c w
  have hb := (Below.refl w.heap.size w).alloc (Nat.le_refl _) (.cells #[.int .i64 a, .int .i64 b, .int .i64 c] 23)
  have HA := Lib.hid ha
  have HB := Lib.hid hb
  clear ha hb
  go_enter Try.func4, Try.ntmps4
  go_wp2_with fail
  go_at_call 7
  refine (HS.out _ _ _ HA.out HB.out).mono ?_
  clear HA HB
  rintro e w2 ⟨rfl, ha, hb⟩
  have HA := Lib.hid ha
  have HB := Lib.hid hb
  obtain ⟨a0, a1, a2, -⟩ := ha
  clear hb
  go_wp2_with fail
  go_at_call 8
  refine (HE.out _ _ _ (by simp) (strs_two _ _ _ _ _ rfl)).mono ?_
  rintro e w3 ⟨rfl, hb3⟩
  have hb := HB.out.trans ((((Below.refl _ _).alloc HB.out.size _)).trans (hb3.mono (by have := HB.out.size; simp; omega)))
  clear hb3
  go_wp2
  go_ret
  exact ⟨rfl, hb⟩

theorem wb_data (l : List (Fin 3)) : (wb l).data.toList = l.map fun i => UInt8.ofNat i.val := by simp [wb]
theorem ba_ext {s t : ByteArray} (h : s.data.toList = t.data.toList) : s = t := by
  cases s; cases t
  simp only at h
  exact congrArg _ (Array.toList_inj.1 h)
theorem wb_take (l : List (Fin 3)) (c : Nat) : (wb l).extract 0 c = wb (l.take c) := by
  refine ba_ext ?_
  rw [wb_data]
  simp [wb]
theorem wb_drop (l : List (Fin 3)) (c : Nat) : (wb l).extract c (wb l).size = wb (l.drop c) := by
  refine ba_ext ?_
  rw [wb_data, wb_size]
  simp [wb]
  rw [List.take_of_length_le (by simp)]
theorem wb_inj {u v : List (Fin 3)} (h : wb u = wb v) : u = v := by
  have h1 : (wb u).data.toList = (wb v).data.toList := by rw [h]
  rw [wb_data, wb_data] at h1
  have hf : ∀ i j : Fin 3, UInt8.ofNat i.val = UInt8.ofNat j.val → i = j := by decide
  induction u generalizing v with
  | nil => cases v with
    | nil => rfl
    | cons b v => cases h1
  | cons a u ih => cases v with
    | nil => cases h1
    | cons b v =>
      simp only [List.map_cons, List.cons.injEq] at h1
      rw [hf _ _ h1.1, ih (ba_ext (by rw [wb_data, wb_data]; exact h1.2)) h1.2]
theorem wb_beq (u v : List (Fin 3)) : ((wb u).toList == (wb v).toList) = decide (u = v) := by
  by_cases h : u = v
  · subst h; simp
  · rw [decide_eq_false h, beq_eq_false_iff_ne]
    intro e
    refine h (wb_inj (ba_ext ?_))
    rw [← ByteArray.toList_eq, ← ByteArray.toList_eq]
    exact e

end Go.Proofs.Ytlhmfaelkkiahaa
