import Derived.Test.YtlhmfaelkkiahaaWords1
namespace Go.Proofs.Ytlhmfaelkkiahaa
open Go.RowKit
open Cox (Tl)

theorem Grows.below {w : World} {A : Nat → Nat} {st : List Tl} {w1 w2 : World} {A1 : Nat → Nat} {st1 : List Tl} (g : Grows w A st w1 A1 st1) (h : Below w1.heap.size w1 w2) : Grows w A st w2 A1 st1 := by
  refine g.trans ⟨⟨fun k nk hk => ?_, g.rep.inj, g.rep.closed⟩, Nat.le_refl _, fun _ _ => rfl, fun k h1 h2 => by omega, ⟨h.os, h.tape, h.output, h.size, fun b hb _ => h.block b hb⟩⟩
  rw [h.block _ (g.rep.lt (List.getElem?_eq_some_iff.1 hk).1)]
  exact g.rep.cells k nk hk

theorem Strs.of_block {w w' : World} {b : Nat} {l : List ByteArray} (h : Strs w b l) (hb : w'.heap[b]? = w.heap[b]?) : Strs w' b l := by
  intro i hi
  rw [World.cell?_of_block (w := w) hb]; exact h i hi

theorem normal_any (m : Fin 3 → Fin 3 → Nat) (hm : ∀ i j, m i j < 100) (f : Nat) (hf : f < 1000000) (A : Nat → Nat) (st : List Tl) (ws : List (List (Fin 3))) (w : World) (st' : List Tl) (y p F bl C : Nat) (ny : Tl) (hr : Rep w A st) (hx : 0 < st.length) (hF : A 0 = F)
    (hp : w.heap[p]? = some (.cells (pcells m F) 65 (0, 0))) (hpA : ¬ In A st.length p) (hl : ∀ l, l ∈ ws → l.length < 1000000) (hn : ws.length < 100) (hw : Cox.walk m f st 0 ws.flatten = some (st', y)) (hy : st'[y]? = some ny)
    (hbl : bl < w.heap.size) (hbA : ¬ In A st.length bl) (hs : Strs w bl (ws.map wb)) :
    Calls Try.prog 27 #[.agg #[.pointer (some ⟨p, 0, none⟩)], .slice (some ⟨bl, 0, none⟩) ws.length C] w fun e w' =>
      ∃ A', e = .returned (.string (wb ny.word)) ∧ Grows w A st w' A' st' := by
  have hg0 : Grows w A st (w.alloc (.cells #[.pointer (some ⟨p, 0, none⟩)] 52)) A st := (Grows.refl hr).below ((Below.refl _ _).alloc (Nat.le_refl _) _)
  have hpf : w.cell? ⟨p, 9, none⟩ = some (.pointer (some ⟨F, 0, none⟩)) := cell_of hp 9
  have hpl : p < w.heap.size := (Array.getElem?_eq_some_iff.1 hp).1
  obtain ⟨o, ho⟩ : ∃ o, w.heap[bl]? = some o := ⟨_, Array.getElem?_eq_getElem hbl⟩
  have HWALK := Lib.hid (fun A st x l w st' y p F a b c d e g => walk_say m hm f hf A st x l w st' y p F a b c d e g)
  have hr0 : ∀ k, k < st.length → ¬ w.heap.size ≤ A k := fun k hk h => by have := hr.lt hk; omega
  have HR0 := Lib.hid hr0
  clear hr0
  have HG := Lib.hid hg0
  have HP := Lib.hid (And.intro hp hpA)
  have HO := Lib.hid (And.intro ho hbA)
  have HS := Lib.hid hs
  have HL := Lib.hid hl
  have HW := Lib.hid hw
  have HY := Lib.hid hy
  have HX := Lib.hid hx
  have HF := Lib.hid hF
  clear hg0 hp hpA ho hbA hs hl hw hy hx hr hF hm
  have hbox : (w.alloc (.cells #[.pointer (some ⟨p, 0, none⟩)] 52)).heap[w.heap.size]? = some (.cells #[.pointer (some ⟨p, 0, none⟩)] 52 (0, 0)) := by
    show (w.heap.push _)[w.heap.size]? = _
    simp
  have hnb : ¬ In A st.length w.heap.size := by
    rintro ⟨k, hk, he⟩
    have h0 := HG.out.rep.lt hk
    have h1 : A k < w.heap.size := by
      have := HG.out.old k hk
      rcases Nat.lt_or_ge (A k) w.heap.size with h | h
      · exact h
      · exact (HR0.out k hk h).elim
    omega
  have HBOX := Lib.hid (And.intro hbox hnb)
  clear hbox hnb
  go_enter Try.func27, Try.ntmps27
  go_wp2_with fail
  go_loopw [5, 15] (fun tt cc wr => ∃ (k xk : Nat) (Ak : Nat → Nat) (stk : List Tl), tt = .pointer (some ⟨Ak xk, 0, none⟩) ∧ cc = .int .i64 k ∧ k ≤ ws.length ∧
      Hid (Cox.walk m f stk xk (ws.drop k).flatten = some (st', y) ∧ Grows (w.alloc (.cells #[.pointer (some ⟨p, 0, none⟩)] 52)) A st wr Ak stk ∧ xk < stk.length)) (fun _ cc _ => ws.length - (intOf cc).toNat)
  case atStart => exact ⟨0, 0, A, st, by rw [HF.out], rfl, Nat.zero_le _, Lib.hid ⟨HW.out, Grows.refl HG.out.rep, HX.out⟩⟩
  case round =>
    obtain ⟨k, xk, Ak, stk, rfl, rfl, hk, HK⟩ := hrel
    have g1 := HK.out.2.1
    have hbx := cell_of (g1.plane HBOX.out.1 HBOX.out.2).1 0
    simp at hbx
    by_cases hlt : k < ws.length
    · have hwk := HK.out.1
      rw [List.drop_eq_getElem_cons hlt, List.flatten_cons, Cox.walk_append] at hwk
      cases hs1 : Cox.walk m f stk xk ws[k] with
      | none => rw [hs1] at hwk; cases hwk
      | some r =>
        rw [hs1] at hwk
        simp only [Option.bind_some] at hwk
        have hpl2 := g1.plane (HG.out.plane HP.out.1 HP.out.2).1 HP.out.2
        have CS := HWALK.out Ak stk xk ws[k] _ r.1 r.2 p F g1.rep HK.out.2.2 hpl2.1 hpl2.2 (HL.out _ (List.getElem_mem hlt)) hs1
        have hbo := (g1.plane (HG.out.plane HO.out.1 HO.out.2).1 HO.out.2).1
        have hcs := (HS.out.of_block (hbo.trans HO.out.1.symm)) k (by simpa using hlt)
        simp only [List.getElem_map] at hcs
        have HWK := Lib.hid hwk
        clear hwk hs1 hpl2 hbo g1
        generalize ws[k] = lk at *
        go_wp2_with (go_at_call 37; refine CS.mono ?_; rintro e w3 ⟨A3, rfl, hx3, hg3⟩)
        have HG3 := Lib.hid hg3
        clear hg3
        go_wp2_with fail
        go_roundw
        case rel => exact ⟨k + 1, r.2, A3, r.1, rfl, by go_num, by omega, Lib.hid ⟨HWK.out, HK.out.2.1.trans HG3.out, hx3⟩⟩
        case measure => simp [intOf]; omega
    · have hwk := HK.out.1
      rw [List.drop_eq_nil_of_le (by omega)] at hwk
      simp only [List.flatten_nil, Cox.walk, Option.some.injEq, Prod.mk.injEq] at hwk
      obtain ⟨rfl, rfl⟩ := hwk
      have c0 := cell_of (g1.rep.cells _ ny HY.out) 0
      simp [tcells] at c0
      clear g1
      go_wp2_with fail
      go_ret
      exact ⟨Ak, rfl, HG.out.trans HK.out.2.1⟩
end Go.Proofs.Ytlhmfaelkkiahaa
