import Derived.Test.YtlhmfaelkkiahaaSmall2
import Derived.Lib.ConvBytes
namespace Go.Proofs.Ytlhmfaelkkiahaa
open Go.RowKit
open Cox (Tl)

/-- a letter of the string is none -/
def badW (s : ByteArray) : Prop := ∃ (i : Nat) (h : i < s.size), 2 < (s[i]'h).toNat
/-- the error of a word -/
noncomputable def cw (s : ByteArray) : Int := by
  classical
  exact if badW s then 1 else if 60 < s.size then 4 else 0
theorem cw_bad {s : ByteArray} (h : badW s) : cw s = 1 := by unfold cw; rw [if_pos h]
theorem cw_long {s : ByteArray} (h : ¬ badW s) (h2 : 60 < s.size) : cw s = 4 := by unfold cw; rw [if_neg h, if_pos h2]
theorem cw_ok {s : ByteArray} (h : ¬ badW s) (h2 : ¬ 60 < s.size) : cw s = 0 := by unfold cw; rw [if_neg h, if_neg h2]

theorem checkword_any (s : ByteArray) (hs : s.size ≤ maxLen) (w : World) : Calls Try.prog 24 #[.string s] w fun e w' => e = .returned (.int .i64 (cw s)) ∧ w' = w := by
  unfold maxLen at hs
  go_enter Try.func24, Try.ntmps24
  go_wp2_with fail
  go_loop [3] (fun t => ∃ k : Nat, k ≤ s.size ∧ t = .int .i64 k ∧ Hid (∀ (i : Nat) (h : i < s.size), i < k → (s[i]'h).toNat ≤ 2)) (fun t => s.size - (intOf t).toNat)
  case atStart => exact ⟨0, Nat.zero_le _, rfl, Lib.hid fun i _ hi => by omega⟩
  case round =>
    obtain ⟨k, hk, rfl, HK⟩ := hrel
    by_cases hlt : k < s.size
    · by_cases h2 : 2 < (s[k]'hlt).toNat
      · have HC := Lib.hid (cw_bad ⟨k, hlt, h2⟩)
        go_wp2_with fail
        go_ret
        exact ⟨by rw [HC.out]; rfl, rfl⟩
      · have HN : Hid (∀ (i : Nat) (h : i < s.size), i < k + 1 → (s[i]'h).toNat ≤ 2) := Lib.hid fun i h hi => by
          by_cases e : i = k
          · subst e; omega
          · exact HK.out i h (by omega)
        go_wp2_with fail
        go_round
        case rel => exact ⟨k + 1, by omega, by go_num, HN⟩
        case measure => simp [intOf]; omega
    · have hg : ¬ badW s := by
        rintro ⟨i, h, h2⟩
        have := HK.out i h (by omega)
        omega
      by_cases h60 : 60 < s.size
      · have HC := Lib.hid (cw_long hg h60)
        clear hg
        go_wp2_with fail
        go_ret
        exact ⟨by rw [HC.out]; rfl, rfl⟩
      · have HC := Lib.hid (cw_ok hg h60)
        clear hg
        go_wp2_with fail
        go_ret
        exact ⟨by rw [HC.out]; rfl, rfl⟩

/-- bytes of a string in a new row -/
theorem bytes_new (w : World) (s : ByteArray) :
    ∃ C W1, (convert 9 76 (.string s)).run Try.prog w = .ok (.slice (some ⟨w.heap.size, 0, none⟩) s.size C) W1 ∧ Below w.heap.size w W1 ∧
      ∀ i (h : i < s.size), W1.cell? ⟨w.heap.size, i, none⟩ = some (.int .u8 ((s[i]'h).toNat : Int)) := by
  refine ⟨_, _, Lib.run_convert_string_bytes (P := Try.prog) w 9 76 5 s Try.underlying9 Try.underlying76 Try.underlying5, ⟨rfl, rfl, rfl, ?_, fun b hb => Lib.bytesWorld_at_old w 5 s b hb⟩, ?_⟩
  · rw [Lib.bytesWorld_size]; omega
  · intro i h
    rw [Lib.bytesWorld_cell w 5 s i h]
    have e : s.data.toList.getD i 0 = s[i]'h := by
      have h' : i < s.data.toList.length := by simpa using h
      rw [List.getD, List.getElem?_eq_getElem h']; rfl
    rw [e]

theorem word_any (s : ByteArray) (hs : s.size ≤ maxLen) (w : World) : Calls Try.prog 35 #[.string s] w fun e w' => e = .returned (.int .i64 (cw s)) ∧ Below w.heap.size w w' := by
  unfold maxLen at hs
  obtain ⟨C, W1, hcv, hb, hcell⟩ := bytes_new w s
  have HB := Lib.hid hb
  have HCELL := Lib.hid hcell
  clear hb hcell
  go_enter Try.func35, Try.ntmps35
  go_wp2_with fail
  go_loop [8] (fun t => ∃ k : Nat, k ≤ s.size ∧ t = .int .i64 k ∧ Hid (∀ (i : Nat) (h : i < s.size), i < k → (s[i]'h).toNat ≤ 2)) (fun t => s.size - (intOf t).toNat)
  case atStart => exact ⟨0, Nat.zero_le _, rfl, Lib.hid fun i _ hi => by omega⟩
  case round =>
    obtain ⟨k, hk, rfl, HK⟩ := hrel
    by_cases hlt : k < s.size
    · have hc := HCELL.out k hlt
      by_cases h2 : 2 < (s[k]'hlt).toNat
      · have HC := Lib.hid (cw_bad ⟨k, hlt, h2⟩)
        go_wp2_with fail
        go_ret
        exact ⟨by rw [HC.out]; rfl, HB.out⟩
      · have HN : Hid (∀ (i : Nat) (h : i < s.size), i < k + 1 → (s[i]'h).toNat ≤ 2) := Lib.hid fun i h hi => by
          by_cases e : i = k
          · subst e; omega
          · exact HK.out i h (by omega)
        go_wp2_with fail
        go_round
        case rel => exact ⟨k + 1, by omega, by go_num, HN⟩
        case measure => simp [intOf]; omega
    · have hg : ¬ badW s := by
        rintro ⟨i, h, h2⟩
        have := HK.out i h (by omega)
        omega
      by_cases h60 : 60 < s.size
      · have HC := Lib.hid (cw_long hg h60)
        clear hg
        go_wp2_with fail
        go_ret
        exact ⟨by rw [HC.out]; rfl, HB.out⟩
      · have HC := Lib.hid (cw_ok hg h60)
        clear hg
        go_wp2_with fail
        go_ret
        exact ⟨by rw [HC.out]; rfl, HB.out⟩

theorem wb_of {s : ByteArray} (h : ¬ badW s) : ∃ l : List (Fin 3), s = wb l := by
  have hl : ∀ l : List UInt8, (∀ x, x ∈ l → x.toNat ≤ 2) → ∃ r : List (Fin 3), l = r.map fun i => UInt8.ofNat i.val := by
    intro l
    induction l with
    | nil => intro _; exact ⟨[], rfl⟩
    | cons x l ih =>
      intro hx
      obtain ⟨r, hr⟩ := ih fun y hy => hx y (List.mem_cons_of_mem _ hy)
      have h2 := hx x (List.mem_cons_self)
      refine ⟨⟨x.toNat, by omega⟩ :: r, ?_⟩
      simp [hr]
  obtain ⟨r, hr⟩ := hl s.data.toList (by
    intro x hx
    obtain ⟨i, hi, rfl⟩ := List.getElem_of_mem hx
    have hi' : i < s.size := by simpa using hi
    exact Nat.le_of_not_lt fun h2 => h ⟨i, hi', h2⟩)
  refine ⟨r, ?_⟩
  apply ByteArray.ext
  show s.data = _
  rw [← Array.toList_inj, hr]
  simp [wb]
theorem wb_good (l : List (Fin 3)) : ¬ badW (wb l) := by
  rintro ⟨i, h, h2⟩
  have hm : ∀ x, x ∈ (wb l).data.toList → x.toNat ≤ 2 := by
    intro x hx
    simp only [wb, List.mem_map] at hx
    obtain ⟨y, _, rfl⟩ := hx
    match y with
    | 0 => decide
    | 1 => decide
    | 2 => decide
  have := hm ((wb l)[i]'h) (Array.getElem_mem_toList (xs := (wb l).data) h)
  omega
theorem cw_wb {l : List (Fin 3)} (h : l.length ≤ 60) : cw (wb l) = 0 := cw_ok (wb_good l) (by rw [wb_size]; omega)
theorem cw_zero {s : ByteArray} (h : cw s = 0) : ∃ l : List (Fin 3), s = wb l ∧ l.length ≤ 60 := by
  by_cases hb : badW s
  · rw [cw_bad hb] at h; cases h
  · by_cases hl : 60 < s.size
    · rw [cw_long hb hl] at h; cases h
    · obtain ⟨l, rfl⟩ := wb_of hb
      rw [wb_size] at hl
      exact ⟨l, rfl, by omega⟩

/-- strings in memory -/
def Strs (w : World) (b : Nat) (l : List ByteArray) : Prop := ∀ i (h : i < l.length), w.cell? ⟨b, i, none⟩ = some (.string l[i])
/-- the first error of words -/
noncomputable def cws : List ByteArray → Int
  | [] => 0
  | s :: l => if cw s = 0 then cws l else cw s
theorem cws_drop {l : List ByteArray} {k : Nat} (h : k < l.length) : cws (l.drop k) = if cw l[k] = 0 then cws (l.drop (k + 1)) else cw l[k] := by
  rw [List.drop_eq_getElem_cons h]; rfl
/-- the error of orders and words -/
noncomputable def errs (a b c : Int) (l : List ByteArray) : Int := if chk a b c = 0 then cws l else chk a b c

theorem Strs.below {w w' : World} {b B : Nat} {l : List ByteArray} (h : Strs w b l) (hb : Below B w w') (hB : b < B) : Strs w' b l := by
  intro i hi
  rw [Below.cell (p := ⟨b, i, none⟩) hb hB]; exact h i hi

theorem errors_any (a b c : Int) (l : List ByteArray) (bl C : Nat) (hn : l.length < 100) (hs : ∀ s, s ∈ l → s.size ≤ maxLen) (w : World) (hbl : bl < w.heap.size) (hl : Strs w bl l) :
    Calls Try.prog 8 #[oval a b c, .slice (some ⟨bl, 0, none⟩) l.length C] w fun e w' => e = .returned (.int .i64 (errs a b c l)) ∧ Below w.heap.size w w' := by
  have HA := Lib.hid (fun w => allowed_any a b c w)
  have HS := Lib.hid hs
  have HL := Lib.hid hl
  clear hs hl
  unfold oval at *
  go_enter Try.func8, Try.ntmps8
  go_wp2_with (go_at_call 23; refine (HA.out _).mono ?_; rintro e w2 ⟨rfl, hb2⟩)
  have hb3 : Below w.heap.size w w2 := ((Below.refl _ _).alloc (Nat.le_refl _) _).trans (hb2.mono (by simp))
  have HB := Lib.hid hb3
  clear hb2 hb3
  go_loopw [5, 6] (fun x t wr => ∃ (k : Nat) (r : Int), x = .int .i64 r ∧ t = .int .i64 k ∧ k ≤ l.length ∧ wr = w2 ∧ Hid (errs a b c l = if r = 0 then cws (l.drop k) else r)) (fun _ t _ => l.length - (intOf t).toNat)
  case atStart => exact ⟨0, chk a b c, rfl, rfl, Nat.zero_le _, rfl, Lib.hid rfl⟩
  case round =>
    obtain ⟨k, r, rfl, rfl, hk, rfl, HK⟩ := hrel
    by_cases hr : r = 0
    · subst hr
      have hke := HK.out
      rw [if_pos rfl] at hke
      by_cases hlt : k < l.length
      · rw [cws_drop hlt] at hke
        have HKE := Lib.hid hke
        have hc := (HL.out.below HB.out hbl) k hlt
        have CW := fun w => checkword_any l[k] (HS.out _ (List.getElem_mem hlt)) w
        clear hke
        generalize l[k] = s at *
        go_wp2_with (go_at_call 24; refine (CW _).mono ?_; rintro e w3 ⟨rfl, rfl⟩)
        go_roundw
        case rel => exact ⟨k + 1, cw s, rfl, by go_num, by omega, trivial, Lib.hid HKE.out⟩
        case measure => simp [intOf]; omega
      · rw [List.drop_eq_nil_of_le (by omega)] at hke
        have HKE := Lib.hid hke
        clear hke
        go_wp2_with fail
        go_ret
        exact ⟨by rw [HKE.out]; rfl, HB.out⟩
    · have hke := HK.out
      rw [if_neg hr] at hke
      have HKE := Lib.hid hke
      clear hke
      have hr0 : (r == 0) = false := by rw [beq_eq_false_iff_ne]; exact hr
      clear hr
      by_cases hlt : k < l.length
      · go_wp2_with fail
        go_ret
        exact ⟨by rw [HKE.out]; rfl, HB.out⟩
      · go_wp2_with fail
        go_ret
        exact ⟨by rw [HKE.out]; rfl, HB.out⟩
end Go.Proofs.Ytlhmfaelkkiahaa
