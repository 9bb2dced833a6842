/- Chapter 10: Hs Ov2 Lw0 Lw1. -/
import Derived.Test.YtkndmibmmoikbaaD29
import Derived.Test.YtkndmibmmoikbaaD17
import Derived.Deep.CutRange
import Derived.StillTail
set_option linter.all false
set_option maxRecDepth 100000
set_option maxHeartbeats 16000000
namespace Go.Proofs.Ytkndmibmmoikbaa
open Go
section
variable {P : Program} {md : Region.Mode} {ops : Array Oper} {Q : Exit → Act → World → Prop} {S : World → Prop} {q : Nat}
def wpE (P : Program) (md : Region.Mode) (ops : Array Oper) (Q : Exit → Act → World → Prop) (S : World → Prop) (q : Nat) : Nat → Array Bool → Act → World → Prop
 | 0, l, a, w => Region.ready md ops l = [] ∧ Q .normal a w
 | n + 1, l, a, w => (Region.ready md ops l = [] → Q .normal a w) ∧ ∀ i, i ∈ Region.ready md ops l → wpOp P ops Q i (fun a' w' => (i ≠ q → S w') ∧ wpE P md ops Q S q n (l.setIfInBounds i true) a' w') a w
theorem wpE_any : ∀ (n : Nat) (l : Array Bool) (a : Act) (w : World), wpE P md ops Q S q n l a w → wpAny P md ops Q n l a w
 | 0, _, _, _, h => h
 | n + 1, _, _, _, h => ⟨h.1, fun i hi => wpOp_mono (fun a' w' h' => wpE_any n _ a' w' h'.2) (h.2 i hi)⟩
theorem wpE_first {i : Nat} {oi : Oper} {v : Value} (hi : ops[i]? = some oi) (hsel : ∀ (j : Nat) (o : Oper) cs b, ops[j]? = some o → o.op ≠ .select cs b) (hwait : Region.waitsFor md ops q i = true)
 (hQ : ∀ c a w, Q (.panic c) (a.put oi.dst v) w → Q (.panic c) a w) : ∀ (n : Nat) (l : Array Bool) (a : Act) (w : World),
   (∀ j oj, ops[j]? = some oj → j ≠ i → l.getD j true = false → (∀ e ∈ oj.after, Region.binds md e = true → e.on ≠ i) → oi.apart ops oj = true) →
   i ∈ Region.ready md ops l → YieldsIf P ops S oi v a → S w → wpE P md ops Q S q n (l.setIfInBounds i true) (a.put oi.dst v) w → wpE P md ops Q S q (n + 1) l a w := by
 obtain ⟨oq, hoq, eq, heq, hbq, hon⟩ := Region.waitsFor_spec hwait
 intro n
 have hqi : ∀ l : Array Bool, i ∈ Region.ready md ops l → ∀ j, j ∈ Region.ready md ops l → j ≠ q := by
  rintro l hr j hj rfl
  obtain ⟨h0, _⟩ := mem_ready.1 hr
  obtain ⟨_, o, ho, hall⟩ := mem_ready.1 hj
  rw [hoq] at ho
  obtain rfl := Option.some.inj ho
  have h1 := hall eq heq hbq
  rw [hon] at h1
  rcases Nat.lt_or_ge i l.size with h2 | h2
  · simp [h2] at h0 h1; rw [h0] at h1; cases h1
  · simp [Array.getElem?_eq_none h2] at h1
 induction n with
 | zero =>
  intro l a w _ hr hy hS H
  refine ⟨fun h => (by rw [h] at hr; cases hr), fun j hj => ?_⟩
  by_cases hji : j = i
  · subst hji; exact hy.wpOp hi hS ⟨fun _ => hS, H⟩
  · have := ready_mono hj hji
    rw [H.1] at this
    cases this
 | succ n ih =>
  intro l a w hfree hr hy hS H
  refine ⟨fun h => (by rw [h] at hr; cases hr), fun j hj => ?_⟩
  by_cases hji : j = i
  · subst hji; exact hy.wpOp hi hS ⟨fun _ => hS, H⟩
  · have hjq := hqi l hr j hj
    have h1 := H.2 j (ready_mono hj hji)
    obtain ⟨hjun, oj, hoj, hall⟩ := mem_ready.1 hj
    have hnot : ∀ e ∈ oj.after, Region.binds md e = true → e.on ≠ i := fun e he hb hei => by
     have h1 := hall e he hb
     have h0 := (mem_ready.1 hr).1
     rw [hei] at h1
     rcases Nat.lt_or_ge i l.size with h' | h'
     · simp [h'] at h0 h1; rw [h0] at h1; cases h1
     · simp [Array.getElem?_eq_none h'] at h1
    have h2 := wpOp_putIf hoj (hfree j oj hoj hji hjun hnot) (fun cs b => hsel i oi cs b hi) (fun cs b => hsel j oj cs b hoj) hQ hy h1
    have hfree' : ∀ k ok, ops[k]? = some ok → k ≠ i → (l.setIfInBounds j true).getD k true = false → (∀ e ∈ ok.after, Region.binds md e = true → e.on ≠ i) → oi.apart ops ok = true := fun k ok hk hki hun hno => by
     refine hfree k ok hk hki ?_ hno
     by_cases hjk : j = k
     · subst hjk; exact hjun
     · rw [getD_set_ne true hjk] at hun; exact hun
    refine wpOp_mono (fun a' w' h3 => ⟨fun hq => h3.2.1 hq, ih (l.setIfInBounds j true) a' w' hfree' (ready_mono hr (Ne.symm hji)) h3.1 (h3.2.1 hjq) ?_⟩) h2
    rw [Array.setIfInBounds_comm _ _ hji]
    exact h3.2.2
theorem e_begin {id : Nat} {a : Act} {w : World} (S : World → Prop) (q : Nat) (hm : P.follows .mixedOrders = true) (hS : S w.drew) (h : S w.drew → wpE P .any ops Q S q ops.size (Array.replicate ops.size false) a w.drew) : (Code.region id ops true).wp P Q a w :=
 wp_region_any hm (wpE_any _ _ _ _ (h hS))
theorem e_done {l : Array Bool} {a : Act} {w : World} (hr : Region.ready md ops l = []) (h : Q .normal a w) : ∀ n, wpE P md ops Q S q n l a w
 | 0 => ⟨hr, h⟩
 | _ + 1 => ⟨fun _ => h, by rw [hr]; simp⟩
end
section
variable {P : Program} {md : Region.Mode} {l : List Oper} {Q : Exit → Act → World → Prop} {S : World → Prop} {q : Nat}
theorem e_yes {i : Nat} {oi : Oper} {v : Value} {fuel : Nat} {listed : Array Bool} {a : Act} {w : World} (hi : l[i]? = some oi)
 (hs : Region.noSelect l.toArray = true) (hwt : Region.waitsFor md l.toArray q i = true) (hf : Region.free md l.toArray listed i = true) (hr : (Region.ready md l.toArray listed).contains i = true)
 (hQ : ∀ c a w, Q (.panic c) (a.put oi.dst v) w → Q (.panic c) a w) (hw : Region.wanted oi (yielded l.toArray a.tmps) = true) (hy : ∀ w, S w → (execOp a.eval oi).run P w = .ok (.value v) w) (hS : S w)
 (h : wpE P md l.toArray Q S q fuel (listed.setIfInBounds i true) (a.put oi.dst v) w) : wpE P md l.toArray Q S q (fuel + 1) listed a w :=
 wpE_first (by simpa using hi) (Region.noSelect_spec hs) hwt hQ fuel listed a w (Region.free_spec (by simpa using hi) hf) (by simpa using hr) (.inl ⟨hw, hy⟩) hS h
theorem ey (i : Nat) {oi : Oper} {v : Value} {fuel : Nat} {listed : Array Bool} {a : Act} {w : World} (hS : S w) (h : wpE P md l.toArray Q S q fuel (listed.setIfInBounds i true) (a.put oi.dst v) w) (hi : l[i]? = some oi := by rfl) (hy : ∀ w, S w → (execOp a.eval oi).run P w = .ok (.value v) w := by (intro w' hw'; (try dsimp only at hw'); go_simp <;> with_reducible rfl))
 (hs : Region.noSelect l.toArray = true := by kernel_rfl) (hwt : Region.waitsFor md l.toArray q i = true := by kernel_rfl) (hf : Region.free md l.toArray listed i = true := by kernel_rfl) (hr : (Region.ready md l.toArray listed).contains i = true := by kernel_rfl)
 (hQ : ∀ c a w, Q (.panic c) (a.put oi.dst v) w → Q (.panic c) a w := by first | exact fun _ _ _ h => h | exact fun _ _ _ h => (nomatch h.1)) (hw : Region.wanted oi (yielded l.toArray a.tmps) = true := by kernel_rfl) : wpE P md l.toArray Q S q (fuel + 1) listed a w :=
 e_yes hi hs hwt hf hr hQ hw hy hS h
theorem e_no {i : Nat} {oi : Oper} {fuel : Nat} {listed : Array Bool} {a : Act} {w : World} (hi : l[i]? = some oi)
 (hs : Region.noSelect l.toArray = true) (hwt : Region.waitsFor md l.toArray q i = true) (hf : Region.free md l.toArray listed i = true) (hr : (Region.ready md l.toArray listed).contains i = true)
 (hQ : ∀ c a w, Q (.panic c) (a.put oi.dst undef) w → Q (.panic c) a w) (hw : Region.wanted oi (yielded l.toArray a.tmps) = false) (hS : S w)
 (h : wpE P md l.toArray Q S q fuel (listed.setIfInBounds i true) (a.put oi.dst undef) w) : wpE P md l.toArray Q S q (fuel + 1) listed a w :=
 wpE_first (by simpa using hi) (Region.noSelect_spec hs) hwt hQ fuel listed a w (Region.free_spec (by simpa using hi) hf) (by simpa using hr) (.inr ⟨hw, rfl⟩) hS h
theorem e_one {i : Nat} {oi : Oper} {fuel : Nat} {listed : Array Bool} {a : Act} {w : World} (hi : l[i]? = some oi)
 (h : ∀ K' : Act → World → Prop, Shut (∀ a w, (i ≠ q → S w) → ((i ≠ q → S w) → wpE P md l.toArray Q S q fuel (listed.setIfInBounds i true) a w) → K' a w) → if Region.wanted oi (yielded l.toArray a.tmps) = true then Oper.wp P oi a w K' Q else K' (a.put oi.dst undef) w) :
 wpOp P l.toArray Q i (fun a' w' => (i ≠ q → S w') ∧ wpE P md l.toArray Q S q fuel (listed.setIfInBounds i true) a' w') a w :=
 wpOp_step (by simpa using hi) (fun K' hK => h K' (fun a w hS hW => hK a w ⟨hS, hW hS⟩))
theorem e_step {i : Nat} {oi : Oper} {fuel : Nat} {listed : Array Bool} {a : Act} {w : World} (hi : l[i]? = some oi) (hr : Region.ready md l.toArray listed = [i])
 (h : ∀ K' : Act → World → Prop, Shut (∀ a w, (i ≠ q → S w) → ((i ≠ q → S w) → wpE P md l.toArray Q S q fuel (listed.setIfInBounds i true) a w) → K' a w) → if Region.wanted oi (yielded l.toArray a.tmps) = true then Oper.wp P oi a w K' Q else K' (a.put oi.dst undef) w) :
 wpE P md l.toArray Q S q (fuel + 1) listed a w :=
 ⟨fun h0 => (by rw [hr] at h0; cases h0), fun j hj => by
   rw [hr] at hj
   obtain rfl := List.mem_singleton.1 hj
   exact e_one hi h⟩
end
end Go.Proofs.Ytkndmibmmoikbaa
namespace Go.Proofs.Ytkndmibmmoikbaa
open Go.RowKit
open Cox (Tl)
def motq (q : PairD) : List (Fin 3) := (unw q.2.tile ++ [mf q.2.mir]) ++ (unw q.1.tile).reverse
def mot (ps : List PairD) (k : Int) : List (Fin 3) := match ps[k.natAbs - 1]? with
 | some q => if k < 0 then (motq q).reverse else motq q
 | none => []
theorem run_add_word (l l' : List (Fin 3)) (h : (l ++ l').length ≤ 2000) (w : World) : (Op.stringOp .add (wb l) (wb l')).run Try.prog w = .ok (.string (wb (l ++ l'))) w := by
 rw [← wb_append]
 have h1 := wb_size l
 have h2 := wb_size l'
 simp at h
 exact run_string_add_sum w _ _ (by omega)
theorem motion_any {L : Nat} {v0 v1 v2 v4 : Value} {pp : Option Addr} {cp : Nat} {ps : List PairD} {w : World} (hL : w.heap[L]? = some (.cells #[v0, v1, v2, .slice pp ps.length cp, v4] 80 (0, 0))) (hps : PairsAt w pp ps) (hlp : ps.length ≤ 600) (k : Int) (hk0 : k ≠ 0) (hk1 : k ≤ ps.length) (hk2 : -(ps.length : Int) ≤ k) (hg : ∀ q, q ∈ ps → cpair q = 0) :
 Calls Try.prog 34 #[.pointer (some ⟨L, 0, none⟩), .int .i64 k] w fun e w' => e = .returned (.string (wb (mot ps k))) ∧ Below w.heap.size w w' := by
 obtain ⟨Q, hQ⟩ : ∃ Q : Ending → World → Prop, Q = fun e w' => e = .returned (.string (wb (mot ps k))) ∧ Below w.heap.size w w' := ⟨_, rfl⟩
 rw [← hQ]
 have HQ := Lib.hid hQ
 clear hQ
 obtain ⟨m, hm⟩ : ∃ m : Nat, k.natAbs = m + 1 := ⟨k.natAbs - 1, by omega⟩
 have hml : m < ps.length := by omega
 obtain ⟨bp, op, rfl, hr⟩ := hps (by intro e; rw [e] at hml; simp at hml)
 obtain ⟨q0, q1, q2, q3⟩ := hr m hml
 have hgq := hg _ (List.getElem_mem hml)
 have hmot : mot ps k = if k < 0 then (motq ps[m]).reverse else motq ps[m] := by
  unfold mot
  rw [hm, Nat.add_sub_cancel, List.getElem?_eq_getElem hml]
 generalize ps[m] = q at *
 obtain ⟨⟨t1, r1⟩, ⟨t2, r2⟩⟩ := q
 have hge := cpair_good hgq
 have h1 := (cw_unw (cedge_good hge.1).1)
 have h2 := (cw_unw (cedge_good hge.2).1)
 have h3 := mf_of (cedge_good hge.2).2
 unfold motq at hmot
 simp only at q0 q1 q2 q3 h1 h2 h3 hmot
 generalize unw t1 = l1 at *
 generalize unw t2 = l2 at *
 generalize mf r2 = i at *
 rw [h1.1] at q0
 rw [h2.1] at q2
 rw [h3] at q3
 have HL1 : Hid (l1.length ≤ maxLen) := Hi (by unfold maxLen; omega)
 have HL2 : Hid ((l2 ++ [i] ++ l1.reverse).length ≤ maxLen) := Hi (by unfold maxLen; simp; omega)
 have A1 := fun w => run_add_word l2 [i] (by simp; omega) w
 have A2 := fun w => run_add_word (l2 ++ [i]) l1.reverse (by simp; omega) w
 generalize l2 ++ [i] ++ l1.reverse = l3 at *
 generalize l2 ++ [i] = l4 at *
 have HM := Lib.hid hmot
 have T1 := Hi (fun w => pturned_any l1 HL1.out w)
 have T3 := Hi (fun w => pturned_any l3 HL2.out w)
 have c0 : w.cell? ⟨L, 3, none⟩ = some (.slice (some ⟨bp, op, none⟩) ps.length cp) := by rw [cell_of hL]; rfl
 have hb0 := (Below.refl w.heap.size w).alloc (Nat.le_refl _) (.cells #[.string (wb l1), .int .i64 r1, .string (wb l2), .int .i64 (i.val : Int)] 41)
 have hc0 := str_new w #[.string (wb l1), .int .i64 r1, .string (wb l2), .int .i64 (i.val : Int)] 41 _ rfl
 have i1 : (m : Int) < (ps.length : Int) := by omega
 have i2 : (0 : Int) ≤ (m : Int) := by omega
 clear h1 h2 h3 hmot hgq hge hr hL hg hps
 by_cases hneg : k < 0
 · have hk : k = -((m : Int) + 1) := by omega
   subst hk
   have e1 : (- -((m : Int) + 1)) = (m : Int) + 1 := by omega
   have e2 : -((m : Int) + 1) < (m : Int) + 1 := by omega
   have e5 : -((m : Int) + 1) < 0 := by omega
   have e3 : (m : Int) + 1 - 1 = (m : Int) := by omega
   clear hneg
   go_enter Try.func34, Try.ntmps34
   go_upto_region 2 with fail
   have hb1 : w.heap.size < (w.alloc (.cells #[.string (wb l1), .int .i64 r1, .string (wb l2), .int .i64 (i.val : Int)] 41)).heap.size := by simp
   generalize w.alloc (.cells #[.string (wb l1), .int .i64 r1, .string (wb l2), .int .i64 (i.val : Int)] 41) = wa at *
   have HB0 := Lib.hid hb0
   have d0 : wa.drew.cell? ⟨w.heap.size, 0, none⟩ = some (.string (wb l1)) := by rw [cell_drew_own, cell_of hc0]; rfl
   have d1 : wa.drew.cell? ⟨w.heap.size, 2, none⟩ = some (.string (wb l2)) := by rw [cell_drew_own, cell_of hc0]; rfl
   have d2 : wa.drew.cell? ⟨w.heap.size, 3, none⟩ = some (.int .i64 (i.val : Int)) := by rw [cell_drew_own, cell_of hc0]; rfl
   clear hb0 hc0 q0 q1 q2 q3 c0
   have HDR := Hi (HB0.out.trans ((Below.refl _ wa).drew))
   generalize hww : w.heap.size = b0 at d0 d1 d2 ⊢
   refine wp_region_held_drew (S := fun w' => w'.cell? ⟨b0, 0, none⟩ = some (.string (wb l1)) ∧ w'.cell? ⟨b0, 2, none⟩ = some (.string (wb l2)) ∧ w'.cell? ⟨b0, 3, none⟩ = some (.int .i64 (i.val : Int))) (by kernel_rfl) (⟨d0, d1, d2⟩) (fun hHeld => ?_)
   refine ty 0 hHeld ?_
   try simp only [ly]
   refine ty 1 hHeld ?_
   try simp only [ly]
   refine ty 2 hHeld ?_
   try simp only [ly]
   refine ty 3 hHeld ?_
   try simp only [ly]
   refine ty 4 hHeld ?_
   try simp only [ly]
   refine ty 5 hHeld ?_
   try simp only [ly]
   refine ty 8 hHeld ?_
   try simp only [ly]
   refine ty 9 hHeld ?_
   try simp only [ly]
   refine ty 10 hHeld ?_
   try simp only [ly]
   refine take_step (i := 6) rfl (by kernel_rfl) (fun K' hK => ?_)
   go_simp
   go_at_call 61
   refine (pletter_any i _).mono ?_
   rintro e w5 ⟨rfl, hw5⟩
   have hb5 : Below wa.drew.heap.size wa.drew w5 := by rw [hw5]; exact (Below.refl _ _).alloc (Nat.le_refl _) _
   have HB5 := Lib.hid hb5
   have g0 := cell_stays hb5 d0
   have g1 := cell_stays hb5 d1
   have g2 := cell_stays hb5 d2
   clear hb5 hw5
   refine hK.out _ _ (⟨g0, g1, g2⟩) (fun hHeld => ?_)
   clear hK K'
   try simp only [ly]
   refine ty 7 hHeld ?_
   try simp only [ly]
   refine take_step (i := 11) rfl (by kernel_rfl) (fun K' hK => ?_)
   go_simp
   go_at_call 62
   refine (T1.out _).mono ?_
   rintro e w6 ⟨rfl, hb6⟩
   have HB6 := Lib.hid hb6
   have k0 := cell_stays hb6 g0
   have k1 := cell_stays hb6 g1
   have k2 := cell_stays hb6 g2
   clear hb6
   refine hK.out _ _ (⟨k0, k1, k2⟩) (fun hHeld => ?_)
   clear hK K'
   try simp only [ly]
   refine ty 12 hHeld ?_
   try simp only [ly]
   refine ty 13 hHeld ?_
   try simp only [ly]
   refine wpAnyH_done (by kernel_rfl) ?_ _
   subst hww
   have HEND := Hi (HDR.out.trans ((HB5.out.trans (HB6.out.mono HB5.out.size)).mono HDR.out.size))
   go_wp2_with (go_at_call 62; refine (T3.out _).mono ?_; rintro e w7 ⟨rfl, hb7⟩; have HB7 := Lib.hid hb7; clear hb7)
   rw [HQ.out]
   exact ⟨by rw [HM.out, if_pos (by omega)]; rfl, HEND.out.trans (HB7.out.mono HEND.out.size)⟩
 · have hk : k = (m : Int) + 1 := by omega
   subst hk
   have e2 : ¬ -((m : Int) + 1) > (m : Int) + 1 := by omega
   have e4 : ¬ ((m : Int) + 1 < -((m : Int) + 1)) := by omega
   have e5 : ¬ ((m : Int) + 1 < 0) := by omega
   have e3 : (m : Int) + 1 - 1 = (m : Int) := by omega
   clear hneg
   go_enter Try.func34, Try.ntmps34
   go_upto_region 2 with fail
   have hb1 : w.heap.size < (w.alloc (.cells #[.string (wb l1), .int .i64 r1, .string (wb l2), .int .i64 (i.val : Int)] 41)).heap.size := by simp
   generalize w.alloc (.cells #[.string (wb l1), .int .i64 r1, .string (wb l2), .int .i64 (i.val : Int)] 41) = wa at *
   have HB0 := Lib.hid hb0
   have d0 : wa.drew.cell? ⟨w.heap.size, 0, none⟩ = some (.string (wb l1)) := by rw [cell_drew_own, cell_of hc0]; rfl
   have d1 : wa.drew.cell? ⟨w.heap.size, 2, none⟩ = some (.string (wb l2)) := by rw [cell_drew_own, cell_of hc0]; rfl
   have d2 : wa.drew.cell? ⟨w.heap.size, 3, none⟩ = some (.int .i64 (i.val : Int)) := by rw [cell_drew_own, cell_of hc0]; rfl
   clear hb0 hc0 q0 q1 q2 q3 c0
   have HDR := Hi (HB0.out.trans ((Below.refl _ wa).drew))
   generalize hww : w.heap.size = b0 at d0 d1 d2 ⊢
   refine wp_region_held_drew (S := fun w' => w'.cell? ⟨b0, 0, none⟩ = some (.string (wb l1)) ∧ w'.cell? ⟨b0, 2, none⟩ = some (.string (wb l2)) ∧ w'.cell? ⟨b0, 3, none⟩ = some (.int .i64 (i.val : Int))) (by kernel_rfl) (⟨d0, d1, d2⟩) (fun hHeld => ?_)
   refine ty 0 hHeld ?_
   try simp only [ly]
   refine ty 1 hHeld ?_
   try simp only [ly]
   refine ty 2 hHeld ?_
   try simp only [ly]
   refine ty 3 hHeld ?_
   try simp only [ly]
   refine ty 4 hHeld ?_
   try simp only [ly]
   refine ty 5 hHeld ?_
   try simp only [ly]
   refine ty 8 hHeld ?_
   try simp only [ly]
   refine ty 9 hHeld ?_
   try simp only [ly]
   refine ty 10 hHeld ?_
   try simp only [ly]
   refine take_step (i := 6) rfl (by kernel_rfl) (fun K' hK => ?_)
   go_simp
   go_at_call 61
   refine (pletter_any i _).mono ?_
   rintro e w5 ⟨rfl, hw5⟩
   have hb5 : Below wa.drew.heap.size wa.drew w5 := by rw [hw5]; exact (Below.refl _ _).alloc (Nat.le_refl _) _
   have HB5 := Lib.hid hb5
   have g0 := cell_stays hb5 d0
   have g1 := cell_stays hb5 d1
   have g2 := cell_stays hb5 d2
   clear hb5 hw5
   refine hK.out _ _ (⟨g0, g1, g2⟩) (fun hHeld => ?_)
   clear hK K'
   try simp only [ly]
   refine ty 7 hHeld ?_
   try simp only [ly]
   refine take_step (i := 11) rfl (by kernel_rfl) (fun K' hK => ?_)
   go_simp
   go_at_call 62
   refine (T1.out _).mono ?_
   rintro e w6 ⟨rfl, hb6⟩
   have HB6 := Lib.hid hb6
   have k0 := cell_stays hb6 g0
   have k1 := cell_stays hb6 g1
   have k2 := cell_stays hb6 g2
   clear hb6
   refine hK.out _ _ (⟨k0, k1, k2⟩) (fun hHeld => ?_)
   clear hK K'
   try simp only [ly]
   refine ty 12 hHeld ?_
   try simp only [ly]
   refine ty 13 hHeld ?_
   try simp only [ly]
   refine wpAnyH_done (by kernel_rfl) ?_ _
   subst hww
   have HEND := Hi (HDR.out.trans ((HB5.out.trans (HB6.out.mono HB5.out.size)).mono HDR.out.size))
   go_wp2_with fail
   rw [HQ.out]
   exact ⟨by rw [HM.out, if_neg (by omega)], HEND.out⟩
end Go.Proofs.Ytkndmibmmoikbaa
namespace Go.Proofs.Ytkndmibmmoikbaa
open Go.RowKit
open Cox (Tl)
noncomputable def small3 : Code := (Try.f5.body.bind (fromR 3)).getD .skip
def SmNext (ts : List ByteArray) (ps : List PairD) (pt pp : Option Addr) (ct cp : Nat) (w : World) (KX : Act → World → Prop) : Prop :=
 ∀ (u2 u3 u4 u5 u6 u7 u8 u9 u10 u11 u12 u13 u14 u15 u16 u17 u18 u19 u20 u21 u22 u23 u24 u25 u26 u27 u28 u29 u30 u31 u32 u33 u34 u35 u36 u37 u38 u39 u40 u41 u42 u43 u44 u45 u46 u47 u48 u49 u50 u51 u52 u53 u54 u55 : Value), KX ⟨#[.slice pt ts.length ct, .slice pp ps.length cp, u2, u3, u4, u5, u6, u7, u8, u9, u10, u11, u12, u13, u14, u15, u16, u17, u18, u19, u20, u21, u22, u23, u24, u25, u26, u27, u28, u29, u30, u31, u32, u33, u34, u35, u36, u37, u38, u39, u40, u41, u42, u43, u44, u45, u46, u47, u48, u49, u50, u51, u52, u53, u54, u55], []⟩ w
theorem small_t3 (ts : List ByteArray) (ps : List PairD) (pt pp : Option Addr) (ct cp : Nat) (w : World) {Q : Ending → World → Prop} (hts : StrsAt w pt ts) (hps : PairsAt w pp ps) (hlt : ts.length ≤ maxLen) (hlp : ps.length ≤ maxLen)
 (hs : ∀ s, s ∈ ts → s.size ≤ maxLen) (hs2 : ∀ p, p ∈ ps → p.1.tile.size ≤ maxLen ∧ p.2.tile.size ≤ maxLen) (HR : Hid (∀ w' (b : Bool), Below w.heap.size w w' → Q (.returned (.bool b)) w')) {u2 u3 u4 u5 u6 u7 u8 u9 u10 u11 u12 u13 u14 u15 u16 u17 u18 u19 u20 u21 u22 u23 u24 u25 u26 u27 u28 u29 u30 u31 u32 u33 u34 u35 u36 u37 u38 u39 u40 u41 u42 u43 u44 u45 u46 u47 u48 u49 u50 u51 u52 u53 u54 u55 : Value} :
 Code.wp Try.prog small3 (bodyPost Try.prog Try.f5 Q) ⟨#[.slice pt ts.length ct, .slice pp ps.length cp, u2, u3, u4, u5, u6, u7, u8, u9, u10, u11, u12, u13, u14, u15, u16, u17, u18, u19, u20, u21, u22, u23, u24, u25, u26, u27, u28, u29, u30, u31, u32, u33, u34, u35, u36, u37, u38, u39, u40, u41, u42, u43, u44, u45, u46, u47, u48, u49, u50, u51, u52, u53, u54, u55], []⟩ w := by
 have HTS := Lib.hid hts
 have HPS := Lib.hid hps
 have BR := Hi (fun s (h : s ∈ ts) w => brief_any s (hs s h) w)
 have BP1 := Hi (fun p (h : p ∈ ps) w => brief_any p.1.tile (hs2 p h).1 w)
 have BP2 := Hi (fun p (h : p ∈ ps) w => brief_any p.2.tile (hs2 p h).2 w)
 unfold maxLen at hlt hlp
 clear hts hps hs hs2
 conv => arg 2; whnf
 go_wp2_with fail
 go_loopw [29] (fun t wr => ∃ k : Nat, k ≤ ts.length ∧ t = .int .i64 (k : Nat) ∧ Hid (Below w.heap.size w wr)) (fun t _ => ts.length - (intOf t).toNat)
 case atStart => exact ⟨0, by omega, rfl, Hi (Below.refl _ _)⟩
 case round =>
  obtain ⟨k, hk, rfl, HK⟩ := hrel
  by_cases hl : k < ts.length
  · obtain ⟨b0, o0, hp, hr⟩ := (HTS.out.below HK.out) (by intro h; rw [h] at hl; simp at hl)
    have c0 := hr k hl
    subst hp
    have k1 : (k : Int) < (ts.length : Int) := by omega
    have k2 : (0 : Int) ≤ (k : Int) := by omega
    have HL := Lib.hid hl
    have IB := Hi (fun w => BR.out ts[k] (List.getElem_mem hl) w)
    clear hr
    obtain ⟨bb, hbb⟩ : ∃ bb, decide (ts[k].size ≤ 20 ∨ 60 < ts[k].size ∧ ts[k].size ≤ 120) = bb := ⟨_, rfl⟩
    rw [hbb] at IB
    clear hbb
    generalize ts[k] = sk at *
    cases bb with
    | true =>
     go_wp2_with (go_at_call 14; refine (IB.out _).mono ?_; rintro e w5 ⟨rfl, h5⟩; subst w5)
     go_roundw
     case rel => exact ⟨k + 1, by have := HL.out; omega, by go_num, HK⟩
     case measure =>
      have := HL.out
      simp [intOf]; omega
    | false =>
     go_wp2_with (go_at_call 14; refine (IB.out _).mono ?_; rintro e w5 ⟨rfl, h5⟩; subst w5)
     exact HR.out _ _ HK.out
  · have hke : k = ts.length := by omega
    subst hke
    have k1 : ¬ (ts.length : Int) < (ts.length : Int) := by omega
    go_wp2_with fail
    go_loopw [39] (fun t wq => ∃ k : Nat, k ≤ ps.length ∧ t = .int .i64 (k : Nat) ∧ Hid (Below w.heap.size w wq)) (fun t _ => ps.length - (intOf t).toNat)
    case atStart => exact ⟨0, by omega, rfl, HK⟩
    case round =>
     obtain ⟨k, hk, rfl, HK⟩ := hrel
     by_cases hl : k < ps.length
     · obtain ⟨b0, o0, hp, hr⟩ := (HPS.out.below HK.out) (by intro h; rw [h] at hl; simp at hl)
       obtain ⟨c0, c1, c2, c3⟩ := hr k hl
       subst hp
       have k1 : (k : Int) < (ps.length : Int) := by omega
       have k2 : (0 : Int) ≤ (k : Int) := by omega
       have HL := Lib.hid hl
       have IB1 := Hi (fun w => BP1.out ps[k] (List.getElem_mem hl) w)
       have IB2 := Hi (fun w => BP2.out ps[k] (List.getElem_mem hl) w)
       clear hr
       obtain ⟨b1, hb1⟩ : ∃ b1, decide (ps[k].1.tile.size ≤ 20 ∨ 60 < ps[k].1.tile.size ∧ ps[k].1.tile.size ≤ 120) = b1 := ⟨_, rfl⟩
       obtain ⟨b2, hb2⟩ : ∃ b2, decide (ps[k].2.tile.size ≤ 20 ∨ 60 < ps[k].2.tile.size ∧ ps[k].2.tile.size ≤ 120) = b2 := ⟨_, rfl⟩
       rw [hb1] at IB1
       rw [hb2] at IB2
       clear hb1 hb2
       generalize ps[k] = sk at *
       obtain ⟨⟨t1, m1⟩, ⟨t2, m2⟩⟩ := sk
       simp only at c0 c1 c2 c3 IB1 IB2
       have HBA := Hi (HK.out.alloc HK.out.size (.cells #[.string t1, .int .i64 m1, .string t2, .int .i64 m2] 41))
       cases b1 with
       | true =>
        cases b2 with
        | true =>
         go_wp2_with (first | (go_at_call 14; with_reducible refine (IB1.out _).mono ?_; rintro e w5 ⟨rfl, h5⟩; subst w5) | (go_at_call 14; with_reducible refine (IB2.out _).mono ?_; rintro e w5 ⟨rfl, h5⟩; subst w5))
         go_roundw
         case rel => exact ⟨k + 1, by have := HL.out; omega, by go_num, HBA⟩
         case measure =>
          have := HL.out
          simp [intOf]; omega
        | false =>
         go_wp2_with (first | (go_at_call 14; with_reducible refine (IB1.out _).mono ?_; rintro e w5 ⟨rfl, h5⟩; subst w5) | (go_at_call 14; with_reducible refine (IB2.out _).mono ?_; rintro e w5 ⟨rfl, h5⟩; subst w5))
         exact HR.out _ _ HBA.out
       | false =>
        go_wp2_with (go_at_call 14; refine (IB1.out _).mono ?_; rintro e w5 ⟨rfl, h5⟩; subst w5)
        exact HR.out _ _ HBA.out
     · have hke : k = ps.length := by omega
       subst hke
       have k1 : ¬ (ps.length : Int) < (ps.length : Int) := by omega
       go_wp2_with fail
       exact HR.out _ _ HK.out
theorem small_any (ts : List ByteArray) (ps : List PairD) (pt pp : Option Addr) (ct cp : Nat) (w : World) (hts : StrsAt w pt ts) (hps : PairsAt w pp ps) (hlt : ts.length ≤ maxLen) (hlp : ps.length ≤ maxLen)
 (hs : ∀ s, s ∈ ts → s.size ≤ maxLen) (hs2 : ∀ p, p ∈ ps → p.1.tile.size ≤ maxLen ∧ p.2.tile.size ≤ maxLen) :
 Calls Try.prog 5 #[.slice pt ts.length ct, .slice pp ps.length cp] w fun e w' => ∃ b : Bool, e = .returned (.bool b) ∧ Below w.heap.size w w' := by
 obtain ⟨Q, hQ⟩ : ∃ Q : Ending → World → Prop, Q = fun e w' => ∃ b : Bool, e = .returned (.bool b) ∧ Below w.heap.size w w' := ⟨_, rfl⟩
 rw [← hQ]
 have HR : Hid (∀ w' (b : Bool), Below w.heap.size w w' → Q (.returned (.bool b)) w') := Hi (fun w' b hb => by rw [hQ]; exact ⟨b, rfl, hb⟩)
 have H3 : Hid (∀ (KX : Act → World → Prop), (∀ a w, Code.wp Try.prog small3 (bodyPost Try.prog Try.f5 Q) a w → KX a w) → SmNext ts ps pt pp ct cp w KX) := Hi (by
  intro KX hKX u2 u3 u4 u5 u6 u7 u8 u9 u10 u11 u12 u13 u14 u15 u16 u17 u18 u19 u20 u21 u22 u23 u24 u25 u26 u27 u28 u29 u30 u31 u32 u33 u34 u35 u36 u37 u38 u39 u40 u41 u42 u43 u44 u45 u46 u47 u48 u49 u50 u51 u52 u53 u54 u55
  exact hKX _ _ (small_t3 ts ps pt pp ct cp w hts hps hlt hlp hs hs2 HR))
 unfold maxLen at hlt hlp
 clear hQ hts hps hs hs2
 go_enter Try.func5, Try.ntmps5
 refine wp_seq_k (fun KX0 hKX0 => ?_)
 have HKX0 := Lib.hid hKX0
 clear hKX0
 go_wp2_with fail
 refine HKX0.out _ _ ?_
 clear HKX0
 refine wp_seq_k (fun KX hKX => ?_)
 have HN := H3.out KX hKX
 clear hKX H3
 by_cases a1 : 20 < ts.length
 · by_cases a2 : ts.length ≤ 200
   · have e1 : decide (20 < ts.length) = true := decide_eq_true a1
     have e2 : decide (ts.length ≤ 200) = true := decide_eq_true a2
     have i1 : (20 : Int) < (ts.length : Int) := by omega
     have i2 : (ts.length : Int) ≤ 200 := by omega
     clear HN
     go_wp2_with fail
     exact HR.out _ _ (Below.refl _ _)
   · have e1 : decide (20 < ts.length) = true := decide_eq_true a1
     have e2 : decide (ts.length ≤ 200) = false := decide_eq_false a2
     have i1 : (20 : Int) < (ts.length : Int) := by omega
     have i2 : ¬ (ts.length : Int) ≤ 200 := by omega
     by_cases a3 : 40 < ps.length
     · by_cases a4 : ps.length ≤ 600
       · have e3 : decide (40 < ps.length) = true := decide_eq_true a3
         have e4 : decide (ps.length ≤ 600) = true := decide_eq_true a4
         clear HN
         go_wp2_with fail
         exact HR.out _ _ (Below.refl _ _)
       · have e3 : decide (40 < ps.length) = true := decide_eq_true a3
         have e4 : decide (ps.length ≤ 600) = false := decide_eq_false a4
         go_wp2_with fail
         exact HN _ _ _ _ _ _ _ _ _ _ _ _ _ _ _ _ _ _ _ _ _ _ _ _ _ _ _ _ _ _ _ _ _ _ _ _ _ _ _ _ _ _ _ _ _ _ _ _ _ _ _ _ _ _
     · have e3 : decide (40 < ps.length) = false := decide_eq_false a3
       go_wp2_with fail
       exact HN _ _ _ _ _ _ _ _ _ _ _ _ _ _ _ _ _ _ _ _ _ _ _ _ _ _ _ _ _ _ _ _ _ _ _ _ _ _ _ _ _ _ _ _ _ _ _ _ _ _ _ _ _ _
 · have e1 : decide (20 < ts.length) = false := decide_eq_false a1
   by_cases a3 : 40 < ps.length
   · by_cases a4 : ps.length ≤ 600
     · have e3 : decide (40 < ps.length) = true := decide_eq_true a3
       have e4 : decide (ps.length ≤ 600) = true := decide_eq_true a4
       clear HN
       go_wp2_with fail
       exact HR.out _ _ (Below.refl _ _)
     · have e3 : decide (40 < ps.length) = true := decide_eq_true a3
       have e4 : decide (ps.length ≤ 600) = false := decide_eq_false a4
       go_wp2_with fail
       exact HN _ _ _ _ _ _ _ _ _ _ _ _ _ _ _ _ _ _ _ _ _ _ _ _ _ _ _ _ _ _ _ _ _ _ _ _ _ _ _ _ _ _ _ _ _ _ _ _ _ _ _ _ _ _
   · have e3 : decide (40 < ps.length) = false := decide_eq_false a3
     go_wp2_with fail
     exact HN _ _ _ _ _ _ _ _ _ _ _ _ _ _ _ _ _ _ _ _ _ _ _ _ _ _ _ _ _ _ _ _ _ _ _ _ _ _ _ _ _ _ _ _ _ _ _ _ _ _ _ _ _ _
end Go.Proofs.Ytkndmibmmoikbaa
namespace Go.Proofs.Ytkndmibmmoikbaa
open Go.RowKit
open Cox (Tl)
theorem few_any (cys : List CycA) (pc : Option Addr) (cc : Nat) (w : World) (hcs : CycsAt w pc cys) (hlc : cys.length ≤ maxLen) (hs3 : ∀ y, y ∈ cys → y.y.tiles.length ≤ maxLen ∧ ∀ s, s ∈ y.y.tiles → s.size ≤ maxLen) :
 Calls Try.prog 6 #[.slice pc cys.length cc] w fun e w' => ∃ b : Bool, e = .returned (.bool b) ∧ Below w.heap.size w w' ∧ (b = true → cys.length ≤ 100 ∧ ∀ y, y ∈ cys → y.y.tiles.length ≤ 50) := by
 obtain ⟨Q, hQ⟩ : ∃ Q : Ending → World → Prop, Q = fun e w' => ∃ b : Bool, e = .returned (.bool b) ∧ Below w.heap.size w w' ∧ (b = true → cys.length ≤ 100 ∧ ∀ y, y ∈ cys → y.y.tiles.length ≤ 50) := ⟨_, rfl⟩
 rw [← hQ]
 have HN : Hid (∀ w', Below w.heap.size w w' → Q (.returned (.bool false)) w') := Hi (fun w' hb => by rw [hQ]; exact ⟨false, rfl, hb, fun h => by cases h⟩)
 have HY : Hid (∀ w', Below w.heap.size w w' → cys.length ≤ 100 → (∀ y, y ∈ cys → y.y.tiles.length ≤ 50) → Q (.returned (.bool true)) w') := Hi (fun w' hb h1 h2 => by rw [hQ]; exact ⟨true, rfl, hb, fun _ => ⟨h1, h2⟩⟩)
 have HCS := Lib.hid hcs
 have HS3 := Lib.hid hs3
 unfold maxLen at hlc
 clear hQ hcs hs3
 by_cases hbig : 100 < cys.length
 · have i1 : (100 : Int) < (cys.length : Int) := by omega
   have d1 : decide (100 < cys.length) = true := decide_eq_true hbig
   go_enter Try.func6, Try.ntmps6
   go_wp2_with fail
   exact HN.out _ (Below.refl _ _)
 · have i1 : ¬ (100 : Int) < (cys.length : Int) := by omega
   have HL100 : Hid (cys.length ≤ 100) := Hi (by omega)
   go_enter Try.func6, Try.ntmps6
   go_wp2_with fail
   go_loopw [12] (fun t wr => ∃ k : Nat, k ≤ cys.length ∧ t = .int .i64 (k : Nat) ∧ Hid (Below w.heap.size w wr ∧ ∀ i (h : i < cys.length), i < k → cys[i].y.tiles.length ≤ 50)) (fun t _ => cys.length - (intOf t).toNat)
   case atStart => exact ⟨0, by omega, rfl, Lib.hid ⟨Below.refl _ _, fun i h h2 => by omega⟩⟩
   case round =>
    obtain ⟨k, hk, rfl, HK⟩ := hrel
    by_cases hl : k < cys.length
    · obtain ⟨b0, o0, hp, hr⟩ := (HCS.out.below HK.out.1) (by intro h; rw [h] at hl; simp at hl)
      obtain ⟨q0, q1, q2, q3, q4, q5⟩ := hr k hl
      subst hp
      have k1 : (k : Int) < (cys.length : Int) := by omega
      have k2 : (0 : Int) ≤ (k : Int) := by omega
      have HL := Lib.hid hl
      have HC3 := Hi (HS3.out _ (List.getElem_mem hl))
      have Q5 := Lib.hid q5
      have HNX : Hid (cys[k].y.tiles.length ≤ 50 → ∀ i (h : i < cys.length), i < k + 1 → cys[i].y.tiles.length ≤ 50) := Hi (fun h0 i hi h2 => by
       by_cases e : i = k
       · subst e; exact h0
       · exact HK.out.2 i hi (by omega))
      clear hr q5
      generalize cys[k] = ck at *
      obtain ⟨pk, ck, yk⟩ := ck
      simp only at q0 q1 q2 q3 q4
      have hbx := (Below.refl wr.heap.size wr).alloc (Nat.le_refl _) (.cells #[.slice pk yk.tiles.length ck, .int .i64 yk.i, .int .i64 yk.j, .int .i64 yk.rounds, .bool yk.mir] 48)
      have HBX := Hi (HK.out.1.trans (hbx.mono HK.out.1.size))
      have HQ5 := Hi (Q5.out.below hbx)
      clear hbx
      by_cases h50 : 50 < yk.tiles.length
      · have j1 : (50 : Int) < (yk.tiles.length : Int) := by omega
        have d1 : decide (50 < yk.tiles.length) = true := decide_eq_true h50
        go_wp2_with fail
        exact HN.out _ HBX.out
      · have j1 : ¬ (50 : Int) < (yk.tiles.length : Int) := by omega
        have H50 : Hid (yk.tiles.length ≤ 50) := Hi (by omega)
        have HYC : Hid (∀ s, s ∈ yk.tiles → s.size ≤ maxLen) := Lib.hid HC3.out.2
        clear h50
        go_upto_region 8 with fail
        have hob := str_new wr #[.slice pk yk.tiles.length ck, .int .i64 yk.i, .int .i64 yk.j, .int .i64 yk.rounds, .bool yk.mir] 48 _ rfl
        generalize wr.alloc (.cells #[.slice pk yk.tiles.length ck, .int .i64 yk.i, .int .i64 yk.j, .int .i64 yk.rounds, .bool yk.mir] 48) = wA at *
        have x0 : wA.cell? ⟨wr.heap.size, 0, none⟩ = some (.slice pk yk.tiles.length ck) := by rw [cell_of hob]; rfl
        clear hob q0 q1 q2 q3 q4
        go_wp2_with fail
        go_loopw [23] (fun t wq => ∃ j : Nat, j ≤ yk.tiles.length ∧ t = .int .i64 (j : Nat) ∧ wq = wA) (fun t _ => yk.tiles.length - (intOf t).toNat)
        case atStart => exact ⟨0, by omega, rfl, rfl⟩
        case round =>
         obtain ⟨j, hj, rfl, rfl⟩ := hrel
         by_cases hjl : j < yk.tiles.length
         · obtain ⟨b1, o1, hp1, hr1⟩ := HQ5.out (by intro h; rw [h] at hjl; simp at hjl)
           have c0 := hr1 j hjl
           have hp1 : pk = _ := hp1
           subst hp1
           have j2 : (j : Int) < (yk.tiles.length : Int) := by omega
           have j3 : (0 : Int) ≤ (j : Int) := by omega
           have HJ := Lib.hid hjl
           have hsz := HYC.out _ (List.getElem_mem hjl)
           clear hr1
           generalize yk.tiles[j] = sj at *
           by_cases h100 : 100 < sj.size
           · have d1 : decide (100 < sj.size) = true := decide_eq_true h100
             have d2 : (100 : Int) < (sj.size : Int) := by omega
             go_wp2_with fail
             exact HN.out _ HBX.out
           · have d1 : decide (100 < sj.size) = false := decide_eq_false h100
             have d2 : ¬ (100 : Int) < (sj.size : Int) := by omega
             go_wp2_with fail
             go_roundw
             case rel => exact ⟨j + 1, by have := HJ.out; omega, by go_num, trivial⟩
             case measure =>
              have := HJ.out
              simp [intOf]; omega
         · have hje : j = yk.tiles.length := by omega
           subst hje
           have j2 : ¬ (yk.tiles.length : Int) < (yk.tiles.length : Int) := by omega
           go_wp2_with fail
           go_roundw
           case rel => exact ⟨k + 1, by have := HL.out; omega, by go_num, Lib.hid ⟨HBX.out, HNX.out H50.out⟩⟩
           case measure =>
            have := HL.out
            simp [intOf]; omega
    · have hke : k = cys.length := by omega
      subst hke
      have k1 : ¬ (cys.length : Int) < (cys.length : Int) := by omega
      go_wp2_with fail
      refine HY.out _ HK.out.1 HL100.out (fun y hy => ?_)
      obtain ⟨i, hi, rfl⟩ := List.getElem_of_mem hy
      exact HK.out.2 i hi hi
end Go.Proofs.Ytkndmibmmoikbaa
