import Derived.Test.YtlhmfaelkkiahaaSmall3
import Derived.WalkLawsBesides
namespace Go.Proofs.Ytlhmfaelkkiahaa
open Go.RowKit
open Cox (Tl)

def refusal (e : Int) : Ending := .panicked [{ v := .iface 68 (.int .i64 e), recovered := false }]

/-- begun, where something is refused -/
theorem begun_no (a b c : Int) (l : List ByteArray) (bl C : Nat) (hn : l.length < 100) (hs : ∀ s, s ∈ l → s.size ≤ maxLen) (w : World) (hbl : bl < w.heap.size) (hl : Strs w bl l) (he : errs a b c l ≠ 0) :
    Calls Try.prog 26 #[oval a b c, .slice (some ⟨bl, 0, none⟩) l.length C] w fun e w' => e = refusal (errs a b c l) ∧ Below w.heap.size w w' := by
  have HA := Lib.hid (fun w => check_any a b c w)
  have HS := Lib.hid hs
  have HL := Lib.hid hl
  have HE := Lib.hid he
  clear hs hl he
  unfold oval at *
  unfold refusal
  by_cases hc : chk a b c = 0
  · have he : errs a b c l = cws l := by unfold errs; rw [if_pos hc]
    rw [he] at HE ⊢
    have HZ := Lib.hid hc
    clear he hc
    have HA2 : Hid (∀ w, Calls Try.prog 34 #[oval a b c] w fun e w' => e = .returned (.int .i64 0) ∧ Below w.heap.size w w') := Lib.hid fun w => by rw [← HZ.out]; exact HA.out w
    go_enter Try.func26, Try.ntmps26
    go_wp2_with (go_at_call 34; refine (HA2.out _).mono ?_; rintro e w2 ⟨rfl, hb2⟩)
    have hb3 : Below w.heap.size w w2 := (((Below.refl _ _).alloc (Nat.le_refl _) _).alloc (by simp) _).trans (hb2.mono (by simp; omega))
    have HB := Lib.hid hb3
    clear hb2 hb3
    go_loopw [17] (fun t wr => ∃ (k : Nat), t = .int .i64 k ∧ k ≤ l.length ∧ Hid (cws l = cws (l.drop k) ∧ Below w.heap.size w wr)) (fun t _ => l.length - (intOf t).toNat)
    case atStart => exact ⟨0, rfl, Nat.zero_le _, Lib.hid ⟨rfl, HB.out⟩⟩
    case round =>
      obtain ⟨k, rfl, hk, HK⟩ := hrel
      by_cases hlt : k < l.length
      · have hd := HK.out.1
        rw [cws_drop hlt] at hd
        have hc := (HL.out.below HK.out.2 hbl) k hlt
        have CW := fun w => word_any l[k] (HS.out _ (List.getElem_mem hlt)) w
        generalize l[k] = s at *
        have HD := Lib.hid hd
        clear hd
        by_cases hz : cw s = 0
        · rw [hz] at CW
          have hd2 := HD.out
          rw [if_pos hz] at hd2
          have HD2 := Lib.hid hd2
          clear hd2 hz
          go_wp2_with (go_at_call 35; refine (CW _).mono ?_; rintro e w3 ⟨rfl, hb3⟩)
          go_roundw
          case rel => exact ⟨k + 1, by go_num, by omega, Lib.hid ⟨HD2.out, HK.out.2.trans (hb3.mono (by have := HK.out.2.size; omega))⟩⟩
          case measure => simp [intOf]; omega
        · have hd2 := HD.out
          rw [if_neg hz] at hd2
          have HD2 := Lib.hid hd2
          have hne : (cw s != 0) = true := by rw [bne_iff_ne]; exact hz
          clear hd2 hz HD
          generalize cw s = r at *
          go_wp2_with (go_at_call 35; refine (CW _).mono ?_; rintro e w3 ⟨rfl, hb3⟩)
          exact ⟨rfl, by rw [HD2.out], HK.out.2.trans (hb3.mono (by have := HK.out.2.size; omega))⟩
      · have hd := HK.out.1
        rw [List.drop_eq_nil_of_le (by omega)] at hd
        exact (HE.out hd).elim
  · have he : errs a b c l = chk a b c := by unfold errs; rw [if_neg hc]
    rw [he]
    clear HE he HS HL
    have HC : ((chk a b c : Int) != 0) = true := by rw [bne_iff_ne]; exact hc
    generalize chk a b c = r at *
    clear hc
    go_enter Try.func26, Try.ntmps26
    go_wp2_with (go_at_call 34; refine (HA.out _).mono ?_; rintro e w2 ⟨rfl, hb2⟩)
    exact ⟨rfl, rfl, (((Below.refl _ _).alloc (Nat.le_refl _) _).alloc (by simp) _).trans (hb2.mono (by simp; omega))⟩

/-- what a new plane is -/
def PlaneNew (w : World) (a b c : Nat) (p F : Nat) (w' : World) : Prop :=
  w'.heap[p]? = some (.cells (pcells (ords a b c) F) 65 (0, 0)) ∧ p ≠ F ∧ w.heap.size ≤ F ∧ w.heap.size ≤ p ∧ Rep w' (fun _ => F) [Cox.first] ∧ Below w.heap.size w w'

theorem plane_after {w wr w3 : World} {a b c p F : Nat} (hb : Below w.heap.size w wr) (h : PlaneNew wr a b c p F w3) : PlaneNew w a b c p F w3 ∧ wr.heap.size ≤ F ∧ wr.heap.size ≤ p := by
  obtain ⟨h1, h2, h3, h4, h5, h6⟩ := h
  have := hb.size
  exact ⟨⟨h1, h2, by omega, by omega, h5, hb.trans (h6.mono this)⟩, h3, h4⟩
theorem plane_set {w w3 : World} {a b c p F B : Nat} (h : PlaneNew w a b c p F w3 ∧ B ≤ F ∧ B ≤ p) {q : Nat} (_h0 : w.heap.size ≤ w.heap.size) (hq : w.heap.size ≤ q ∧ q < B) (v : Value) : PlaneNew w a b c p F (w3.setCell ⟨q, 0, none⟩ v) := by
  obtain ⟨⟨h1, h2, h3, h4, h5, h6⟩, hF, hp⟩ := h
  have hh : ∀ k, k ≠ q → (w3.setCell ⟨q, 0, none⟩ v).heap[k]? = w3.heap[k]? := fun k hk => Below.heap_setCell _ _ _ _ hk
  refine ⟨by rw [hh _ (by omega)]; exact h1, h2, h3, h4, ⟨fun k nd hk => ?_, h5.inj, h5.closed⟩, h6.setCell hq.1 v⟩
  rw [hh _ (by omega)]
  exact h5.cells k nd hk

theorem chk_zero {a b c : Int} (h : chk a b c = 0) : ∃ x y z : Nat, a = x ∧ b = y ∧ c = z ∧ x ≤ 12 ∧ y ≤ 12 ∧ z ≤ 12 ∧ x ≠ 1 ∧ y ≠ 1 ∧ z ≠ 1 := by
  unfold chk at h
  by_cases hb : badO a ∨ badO b ∨ badO c
  · rw [if_pos hb] at h; cases h
  · have ha : ¬ badO a := fun g => hb (.inl g)
    have hb' : ¬ badO b := fun g => hb (.inr (.inl g))
    have hc : ¬ badO c := fun g => hb (.inr (.inr g))
    unfold badO at ha hb' hc
    exact ⟨a.toNat, b.toNat, c.toNat, by omega, by omega, by omega, by omega, by omega, by omega, by omega, by omega, by omega⟩

/-- begun, where nothing is refused -/
theorem begun_yes (a b c : Nat) (l : List ByteArray) (bl C : Nat) (hn : l.length < 100) (hs : ∀ s, s ∈ l → s.size ≤ maxLen) (w : World) (hbl : bl < w.heap.size) (hl : Strs w bl l) (he : errs a b c l = 0) :
    Calls Try.prog 26 #[oval a b c, .slice (some ⟨bl, 0, none⟩) l.length C] w fun e w' => ∃ p F, e = .returned (.agg #[.pointer (some ⟨p, 0, none⟩)]) ∧ PlaneNew w a b c p F w' := by
  have HA := Lib.hid (fun w => check_any a b c w)
  have HN := Lib.hid (fun w => new_any a b c w)
  have HS := Lib.hid hs
  have HL := Lib.hid hl
  have HE := Lib.hid he
  clear hs hl he
  unfold oval at *
  have hz : chk a b c = 0 := by
    have := HE.out
    unfold errs at this
    by_cases h : chk a b c = 0
    · exact h
    · rw [if_neg h] at this; exact this
  have he : cws l = 0 := by
    have := HE.out
    unfold errs at this
    rw [if_pos hz] at this; exact this
  rw [hz] at HA
  clear hz HE
  have HE := Lib.hid he
  clear he
  go_enter Try.func26, Try.ntmps26
  go_wp2_with (go_at_call 34; refine (HA.out _).mono ?_; rintro e w2 ⟨rfl, hb2⟩)
  have hb3 : Below w.heap.size w w2 := (((Below.refl _ _).alloc (Nat.le_refl _) _).alloc (by simp) _).trans (hb2.mono (by simp; omega))
  have d0 : w2.cell? ⟨w.heap.size, 0, none⟩ = some (.int .i64 a) := by rw [Below.cell (p := ⟨w.heap.size, 0, none⟩) hb2 (by simp; omega)]; simp
  have d1 : w2.cell? ⟨w.heap.size, 1, none⟩ = some (.int .i64 b) := by rw [Below.cell (p := ⟨w.heap.size, 1, none⟩) hb2 (by simp; omega)]; simp
  have d2 : w2.cell? ⟨w.heap.size, 2, none⟩ = some (.int .i64 c) := by rw [Below.cell (p := ⟨w.heap.size, 2, none⟩) hb2 (by simp; omega)]; simp
  have d4 : w2.cell? ⟨w.heap.size + 1, 0, none⟩ = some (.pointer none) := by rw [Below.cell (p := ⟨w.heap.size + 1, 0, none⟩) hb2 (by simp)]; simp
  have d5 : w2.frozen? ⟨w.heap.size + 1, 0, none⟩ = false := by rw [Below.frozen (p := ⟨w.heap.size + 1, 0, none⟩) hb2 (by simp)]; simp
  have hz2 : w.heap.size + 1 < w2.heap.size := by have := hb2.size; simp at this; omega
  have HD := Lib.hid (And.intro d0 (And.intro d1 (And.intro d2 (And.intro d4 (And.intro d5 hz2)))))
  have HB := Lib.hid hb3
  clear hb2 hb3 d0 d1 d2 d4 d5 hz2
  go_loopw [17] (fun t wr => ∃ (k : Nat), t = .int .i64 k ∧ k ≤ l.length ∧ Hid (cws (l.drop k) = 0 ∧ Below w2.heap.size w2 wr)) (fun t _ => l.length - (intOf t).toNat)
  case atStart => exact ⟨0, rfl, Nat.zero_le _, Lib.hid ⟨HE.out, Below.refl _ _⟩⟩
  case round =>
    obtain ⟨k, rfl, hk, HK⟩ := hrel
    by_cases hlt : k < l.length
    · have hd := HK.out.1
      rw [cws_drop hlt] at hd
      have hc := ((HL.out.below HB.out hbl).below HK.out.2 (by have := HB.out.size; omega)) k hlt
      have CW := fun w => word_any l[k] (HS.out _ (List.getElem_mem hlt)) w
      generalize l[k] = s at *
      have hz : cw s = 0 := by
        by_cases h : cw s = 0
        · exact h
        · rw [if_neg h] at hd; exact hd
      rw [if_pos hz] at hd
      rw [hz] at CW
      have HD2 := Lib.hid hd
      clear hd hz
      go_wp2_with (go_at_call 35; refine (CW _).mono ?_; rintro e w3 ⟨rfl, hb3⟩)
      go_roundw
      case rel => exact ⟨k + 1, by go_num, by omega, Lib.hid ⟨HD2.out, HK.out.2.trans (hb3.mono HK.out.2.size)⟩⟩
      case measure => simp [intOf]; omega
    · have hb := HK.out.2
      obtain ⟨d0, d1, d2, d4, d5, hz2⟩ := HD.out
      rw [← Below.cell (p := ⟨w.heap.size, 0, none⟩) hb (by simp; omega)] at d0
      rw [← Below.cell (p := ⟨w.heap.size, 1, none⟩) hb (by simp; omega)] at d1
      rw [← Below.cell (p := ⟨w.heap.size, 2, none⟩) hb (by simp; omega)] at d2
      rw [← Below.cell (p := ⟨w.heap.size + 1, 0, none⟩) hb (by simp; omega)] at d4
      rw [← Below.frozen (p := ⟨w.heap.size + 1, 0, none⟩) hb (by simp; omega)] at d5
      have HSZ := Lib.hid (And.intro hb.size hz2)
      clear hb hz2
      go_wp2_with fail
      go_at_call 36
      refine (HN.out _).mono ?_
      rintro e w3 ⟨p, F, rfl, hpn⟩
      have q4 : w3.cell? ⟨w.heap.size + 1, 0, none⟩ = some (.pointer none) := by rw [Below.cell (p := ⟨w.heap.size + 1, 0, none⟩) hpn.2.2.2.2.2 (by have := HSZ.out; simp; omega)]; exact d4
      have q5 : w3.frozen? ⟨w.heap.size + 1, 0, none⟩ = false := by rw [Below.frozen (p := ⟨w.heap.size + 1, 0, none⟩) hpn.2.2.2.2.2 (by have := HSZ.out; simp; omega)]; exact d5
      have HPN := Lib.hid hpn
      clear hpn d0 d1 d2 d4 d5
      go_wp2_with fail
      refine bodyPost_ret (v := .agg #[.pointer (some ⟨p, 0, none⟩)]) (by simp [results, Try.results26, go_sem, q4]) rfl ⟨p, F, rfl, ?_⟩
      exact plane_set (plane_after (HB.out.trans (HK.out.2.mono HB.out.size)) HPN.out) (Nat.le_refl _) ⟨by omega, by have := HSZ.out; omega⟩ _
end Go.Proofs.Ytlhmfaelkkiahaa
