import Derived.Test.YtlhmfaelkkiahaaRef2
namespace Go.Proofs.Ytlhmfaelkkiahaa
open Go.RowKit
open Cox (Tl)

theorem gstep_say (a b c : Int) (m : Fin 3 → Fin 3 → Nat) (N : Nat) (hm : ∀ i j : Fin 3, m i j < 100) (ho : ∀ i j : Fin 3, i ≠ j → (if (i.val : Int) + (j.val : Int) = 1 then a else if (i.val : Int) + (j.val : Int) = 3 then b else c) = (m i j : Int)) (hN : N ≤ 1000000000000) (f : Nat) (hf : f < 1000000) : GSaid a b c m N f := by
  induction f with
  | zero => intro B G w st x s st' y _ _ h; simp [Cox.step] at h
  | succ f ih =>
    have ih := ih (by omega)
    intro B G w st x s st' y hg hx hstep hlen
    have hnx : st[x]? = some st[x] := List.getElem?_eq_getElem hx
    generalize st[x] = nd at hnx
    cases hts : nd.to s with
    | some y0 =>
      have hstep2 := hstep
      simp only [Cox.step, hnx, Option.bind_some, hts] at hstep2
      have hlen2 : ¬ f < nd.word.length := by intro h; rw [if_pos h] at hstep2; cases hstep2
      rw [if_neg hlen2] at hstep2
      simp only [Option.some.injEq, Prod.mk.injEq] at hstep2
      obtain ⟨rfl, rfl⟩ := hstep2
      refine (gstep_known a b c B G w st hg x s nd hnx y0 hts).mono ?_
      rintro e w' ⟨rfl, rfl⟩
      obtain ⟨R, cap, cur, h⟩ := hg
      exact ⟨rfl, h.closed x nd s y0 hnx hts, ⟨R, cap, cur, h⟩, Below.refl _ _⟩
    | none => exact gstep_new a b c m N f hm ho hN (by omega) ih B G w st hg x s nd hnx hts st' y hstep hlen

theorem walk_len (m : Fin 3 → Fin 3 → Nat) (f : Nat) (l : List (Fin 3)) : ∀ (st : List Tl) (x : Nat) (st' : List Tl) (y : Nat), Cox.walk m f st x l = some (st', y) → st.length ≤ st'.length := by
  induction l with
  | nil => intro st x st' y h; simp only [Cox.walk, Option.some.injEq, Prod.mk.injEq] at h; obtain ⟨rfl, _⟩ := h; exact Nat.le_refl _
  | cons s l ih =>
    intro st x st' y h
    simp only [Cox.walk] at h
    cases hs : Cox.step m f st x s with
    | none => rw [hs] at h; cases h
    | some r =>
      rw [hs] at h
      exact Nat.le_trans (step_len m f _ _ _ _ _ hs) (ih _ _ _ _ h)

set_option maxRecDepth 100000 in
theorem gwalk_say (a b c : Int) (m : Fin 3 → Fin 3 → Nat) (N : Nat) (hm : ∀ i j : Fin 3, m i j < 100) (ho : ∀ i j : Fin 3, i ≠ j → (if (i.val : Int) + (j.val : Int) = 1 then a else if (i.val : Int) + (j.val : Int) = 3 then b else c) = (m i j : Int)) (hN : N ≤ 1000000000000) (f : Nat) (hf : f < 1000000)
    (B G : Nat) (w : World) (st : List Tl) (x : Nat) (l : List (Fin 3)) (hl : l.length < 1000000) (st' : List Tl) (y : Nat) (hg : GS a b c B G w st) (hx : x < st.length) (hw : Cox.walk m f st x l = some (st', y)) (hlen : st'.length ≤ N) :
    Calls Try.prog 39 #[.pointer (some ⟨G, 0, none⟩), .int .i64 x, .string (wb l)] w fun e w' => e = .returned (.int .i64 y) ∧ y < st'.length ∧ GS a b c B G w' st' ∧ Below B w w' := by
  have ST := Lib.hid (gstep_say a b c m N hm ho hN f hf)
  have HIX := Lib.hid (fun i h W => index_wb l i h W)
  have zl := wb_size l
  have HG := Lib.hid hg
  have HX := Lib.hid hx
  have HW := Lib.hid hw
  clear hg hx hw hm ho
  obtain ⟨SS, hS⟩ : ∃ q, q = wb l := ⟨_, rfl⟩
  rw [← hS] at zl ⊢
  have HS := Lib.hid hS
  clear hS
  go_enter Try.func39, Try.ntmps39
  go_wp2_with fail
  go_loopw [1, 7] (fun tt cc wr => ∃ (j xj : Nat) (stj : List Tl), j ≤ l.length ∧ tt = .int .i64 xj ∧ cc = .int .i64 j ∧ Hid (Cox.walk m f stj xj (l.drop j) = some (st', y) ∧ GS a b c B G wr stj ∧ Below B w wr ∧ xj < stj.length)) (fun _ cc _ => l.length - (intOf cc).toNat)
  case atStart => exact ⟨0, x, st, Nat.zero_le _, rfl, rfl, Lib.hid ⟨HW.out, HG.out, Below.refl _ _, HX.out⟩⟩
  case round =>
    obtain ⟨j, xj, stj, hj, rfl, rfl, HJ⟩ := hrel
    by_cases hlt : j < l.length
    · have hwk := HJ.out.1
      rw [List.drop_eq_getElem_cons hlt] at hwk
      simp only [Cox.walk] at hwk
      cases hs : Cox.step m f stj xj l[j] with
      | none => rw [hs] at hwk; cases hwk
      | some r =>
        rw [hs] at hwk
        simp only [Option.bind_some] at hwk
        have CS := Lib.hid (ST.out B G wr stj xj l[j] r.1 r.2 HJ.out.2.1 HJ.out.2.2.2 hs (Nat.le_trans (walk_len m f _ _ _ _ _ hwk) hlen))
        have i1 := HIX.out j hlt
        rw [← HS.out] at i1
        have j1 : (j : Int) < (l.length : Int) := by omega
        have j2 : (0 : Int) ≤ (j : Int) := by omega
        have hb : (l[j].val : Int) < 3 := by have := l[j].isLt; omega
        have hb0 : (0 : Int) ≤ (l[j].val : Int) := by omega
        have hwr : IntKind.i64.wrap (l[j].val : Int) = (l[j].val : Int) := by rw [IntKind.wrap_i64]; omega
        have HWK := Lib.hid hwk
        clear hwk hs
        generalize (l[j].val : Int) = lj at *
        go_wp2_with (go_at_call 45; refine CS.out.mono ?_; rintro e w3 ⟨rfl, hx3, hg3, hb3⟩)
        have HG3 := Lib.hid (And.intro hx3 (And.intro hg3 hb3))
        clear hx3 hg3 hb3
        go_wp2_with fail
        go_roundw
        case rel => exact ⟨j + 1, r.2, r.1, by omega, rfl, by go_num, Lib.hid ⟨HWK.out, HG3.out.2.1, HJ.out.2.2.1.trans HG3.out.2.2, HG3.out.1⟩⟩
        case measure => simp [intOf]; omega
    · have hwk := HJ.out.1
      rw [List.drop_eq_nil_of_le (by omega)] at hwk
      simp only [Cox.walk, Option.some.injEq, Prod.mk.injEq] at hwk
      obtain ⟨rfl, rfl⟩ := hwk
      have hfin : Hid (xj < stj.length ∧ GS a b c B G wr stj ∧ Below B w wr) := Lib.hid ⟨HJ.out.2.2.2, HJ.out.2.1, HJ.out.2.2.1⟩
      have j1 : ¬ (j : Int) < (l.length : Int) := by omega
      go_wp2_with fail
      go_ret
      exact ⟨rfl, hfin.out⟩
end Go.Proofs.Ytlhmfaelkkiahaa
