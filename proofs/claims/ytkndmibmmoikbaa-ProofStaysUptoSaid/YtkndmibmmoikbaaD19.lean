/- Chapter 10: Pl2 Pl3. -/
import Derived.Test.YtkndmibmmoikbaaD18
import Derived.Deep.QuietTactic
import Derived.Deep.RegionHeld
import Derived.StillTailTactics
set_option linter.all false
set_option maxRecDepth 100000
set_option maxHeartbeats 16000000
namespace Go.Proofs.Ytkndmibmmoikbaa
open Go.RowKit
open Cox (Tl)
variable {K : Type} [Cox.OR K] (W : Cox.Tri K)
noncomputable def Nb (u : List (Fin 3)) (i : Fin 3) : List (Fin 3) := Cox.nf W (u ++ [i])
inductive Rch (ws : List (List (Fin 3))) (r : List (Fin 3)) : List (Fin 3) → Prop
 | base : Rch ws r r
 | step {u : List (Fin 3)} (i : Fin 3) : Rch ws r u → Nb W u i ∈ ws → Rch ws r (Nb W u i)
def Conn (ws : List (List (Fin 3))) : Prop := ∀ u, u ∈ ws → Rch W ws (ws.headD []) u
theorem nodup_len {α : Type} [DecidableEq α] {l1 : List α} : ∀ {l2 : List α}, l1.Nodup → (∀ x, x ∈ l1 → x ∈ l2) → l1.length ≤ l2.length := by
 induction l1 with
 | nil => intro l2 _ _; simp
 | cons a l ih =>
  intro l2 hn hs
  obtain ⟨h1, h2⟩ := List.nodup_cons.1 hn
  have ha := hs a (by simp)
  have := ih (l2 := l2.erase a) h2 (fun x hx => (List.mem_erase_of_ne (fun (e : x = a) => h1 (e ▸ hx))).2 (hs x (by simp [hx])))
  rw [List.length_erase_of_mem ha] at this
  have : 0 < l2.length := List.length_pos_of_mem ha
  simp; omega
theorem nodup_all {α : Type} [DecidableEq α] {l1 l2 : List α} (h1 : l1.Nodup) (hs : ∀ x, x ∈ l1 → x ∈ l2) (hl : l1.length = l2.length) : ∀ x, x ∈ l2 → x ∈ l1 := by
 intro x hx
 refine Classical.byContradiction fun hn => ?_
 have := nodup_len (l1 := x :: l1) (l2 := l2) (List.nodup_cons.2 ⟨hn, h1⟩) (fun y hy => by
  rcases List.mem_cons.1 hy with rfl | hy
  · exact hx
  · exact hs y hy)
 simp at this; omega
structure BInv (ws qs : List (List (Fin 3))) (k i : Nat) : Prop where
 ne : qs ≠ []
 head : qs.headD [] = ws.headD []
 sub : ∀ q, q ∈ qs → q ∈ ws ∧ Rch W ws (ws.headD []) q
 done : ∀ j (h : j < qs.length), j < k → ∀ s, Nb W qs[j] s ∈ ws → Nb W qs[j] s ∈ qs
 part : ∀ (h : k < qs.length), ∀ s : Fin 3, s.val < i → Nb W qs[k] s ∈ ws → Nb W qs[k] s ∈ qs
theorem BInv.start {ws : List (List (Fin 3))} {w0 : List (Fin 3)} (h : ws.headD [] = w0) (hm : w0 ∈ ws) : BInv W ws [w0] 0 0 where
 ne := by simp
 head := h.symm
 sub q hq := by
  simp at hq
  subst hq
  exact ⟨hm, by rw [h]; exact .base⟩
 done j h h1 := by omega
 part h s h1 := by omega
theorem BInv.skip {ws qs : List (List (Fin 3))} {k : Nat} {i : Fin 3} (h : BInv W ws qs k i.val) (hk : k < qs.length) (hn : Nb W qs[k] i ∈ ws → Nb W qs[k] i ∈ qs) : BInv W ws qs k (i.val + 1) where
 ne := h.ne
 head := h.head
 sub := h.sub
 done := h.done
 part hk s hs hm := by
  by_cases e : s = i
  · subst e; exact hn hm
  · exact h.part hk s (by have : s.val ≠ i.val := fun q => e (Fin.ext q); omega) hm
theorem BInv.add {ws qs : List (List (Fin 3))} {k : Nat} {i : Fin 3} (h : BInv W ws qs k i.val) (hk : k < qs.length) (hm : Nb W qs[k] i ∈ ws) : BInv W ws (qs ++ [Nb W qs[k] i]) k (i.val + 1) where
 ne := by simp
 head := by
  rw [← h.head]
  cases qs with
  | nil => simp at hk
  | cons a l => rfl
 sub q hq := by
  rcases List.mem_append.1 hq with hq | hq
  · exact h.sub q hq
  · simp at hq
    subst hq
    exact ⟨hm, .step i (h.sub _ (List.getElem_mem hk)).2 hm⟩
 done j hj hjk s hs := by
  have hjl : j < qs.length := by omega
  rw [List.getElem_append_left hjl] at hs ⊢
  exact List.mem_append_left _ (h.done j hjl hjk s hs)
 part hk' s hs hms := by
  rw [List.getElem_append_left hk] at hms ⊢
  by_cases e : s = i
  · subst e; simp
  · exact List.mem_append_left _ (h.part hk s (by have : s.val ≠ i.val := fun q => e (Fin.ext q); omega) hms)
theorem BInv.next {ws qs : List (List (Fin 3))} {k : Nat} (h : BInv W ws qs k 3) : BInv W ws qs (k + 1) 0 where
 ne := h.ne
 head := h.head
 sub := h.sub
 done j hj hjk s hs := by
  by_cases e : j = k
  · subst e; exact h.part hj s s.isLt hs
  · exact h.done j hj (by omega) s hs
 part _ s hs := by omega
theorem BInv.fin {ws qs : List (List (Fin 3))} {k : Nat} (h : BInv W ws qs k 0) (hk : qs.length ≤ k) (hq : qs.Nodup) (hw : ws.Nodup) : (qs.length = ws.length ↔ Conn W ws) := by
 constructor
 · intro hl u hu
   exact (h.sub u (nodup_all hq (fun x hx => (h.sub x hx).1) hl u hu)).2
 · intro hc
   have hall : ∀ u, Rch W ws (ws.headD []) u → u ∈ qs := by
    intro u hu
    induction hu with
    | base =>
     rw [← h.head]
     cases qs with
     | nil => exact (h.ne rfl).elim
     | cons a l => simp
    | step i _ hm ih =>
     obtain ⟨j, hj, rfl⟩ := List.getElem_of_mem ih
     exact h.done j hj (by omega) i hm
   have h1 := nodup_len hq (fun x hx => (h.sub x hx).1)
   have h2 := nodup_len hw (fun x hx => hall x (hc x hx))
   omega
theorem one_row (H : Nat) (w : World) (u : Value) (hH : H ≤ w.heap.size) : (w.alloc (.cells #[u] 69)).ownsRow H 69 1 (.slice (some ⟨w.heap.size, 0, none⟩) 1 1) 1 [u] := by
 refine ⟨rfl, .inr ⟨w.heap.size, 1, #[u], rfl, hH, str_new _ _ _ _ rfl, Nat.le_refl _, by unfold maxLen; omega, rfl, rfl⟩⟩
theorem QSt.first {a b c : Int} {p F : Nat} {w : World} {D : Dict} (td : TD W a b c p F w D) {u : List (Fin 3)} {x : Nat} (hx : D u x) (hM : ¬ D.dom w.heap.size) :
 ∃ w1, (Instr.mapUpdate 115 (.map (some w.heap.size)) (.pointer (some ⟨x, 0, none⟩)) (.bool true)).run Try.prog (w.alloc (.map #[] 0)) = .ok () w1 ∧ w1.heap.size = w.heap.size + 1 ∧ Below w.heap.size w w1 ∧
  QSt w.heap.size (w1.alloc (.cells #[.pointer (some ⟨x, 0, none⟩)] 69)) D w.heap.size (.slice (some ⟨w.heap.size + 1, 0, none⟩) 1 1) [u] [x] := by
 have b1 : Below w.heap.size w (w.alloc (.map #[] 0)) := (Below.refl _ _).alloc (Nat.le_refl _) _
 have td1 := td.below b1
 obtain ⟨w1, h1, h2, h3, h4⟩ := (MapOf.new w).update_out (tile_kin (w.alloc (.map #[] 0))) (mt := 115) (et := 4) (by kernel_rfl) (by intro kv h; cases h) (k := pval x) (td1.key hx) (by simp) (.bool true)
 have hs : w1.heap.size = w.heap.size + 1 := by rw [h4]; simp
 have hb : Below w.heap.size w w1 := b1.trans (h3.below (fun b hb => by omega) (by simp))
 refine ⟨w1, h1, hs, hb, ?_⟩
 have hr := one_row w.heap.size w1 (pval x) (by omega)
 rw [hs] at hr
 refine ⟨h2.keep (Below.heap_alloc _ _ _ (by omega)), hr, rfl, ?_, by simp, Nat.le_refl _, hM, ?_⟩
 · intro i hi hi'
   have : i = 0 := by simpa using hi
   subst this
   exact hx
 · intro g hg
   have : g = w.heap.size + 1 := by simpa [Value.ownBlock] using hg.symm
   subst this
   refine ⟨?_, by omega⟩
   rintro ⟨v, hv⟩
   have := td.lt hv
   omega
theorem QSt.ownsA {H : Nat} {w : World} {D : Dict} {MM : Nat} {qv : Value} {qs : List (List (Fin 3))} {ys : List Nat} (h : QSt H w D MM qv qs ys) {w1 : World} (h2 : Out (fun b => b = MM) w w1) (o : Obj) : (w1.alloc o).ownsRow H 69 1 qv ys.length (ys.map pval) := by
 refine owns_keep h.row fun g hg => ?_
 have hl := (owns_lt h.row hg).1
 rw [Below.heap_alloc _ _ _ (Nat.lt_of_lt_of_le hl h2.size), h2.block g hl (h.sepR g hg).2]
def HangsPost (a b c : Int) (p F : Nat) (w : World) (D : Dict) (ws : List (List (Fin 3))) (e : Ending) (w' : World) : Prop := ∃ r, e = .returned (.bool r) ∧ (r = true ↔ Conn W ws) ∧ ∃ D', TD W a b c p F w' D' ∧ TExt w D w' D'
theorem hangs_any {a b c : Int} (ho : Ords W a b c) {B L p F M : Nat} {w : World} {D : Dict} {ws : List (List (Fin 3))} {xs : List Nat} {rv wv pv : Value} (h : LSt W B a b c L p F M w D ws xs rv wv pv) (hne : ws ≠ []) (h200 : ws.length ≤ 200) (hlen : ∀ u, u ∈ ws → u.length ≤ 60) :
 Calls Try.prog 48 #[.pointer (some ⟨L, 0, none⟩)] w (HangsPost W a b c p F w D ws) := by
 have hx0 : 0 < xs.length := by rw [h.len]; exact List.length_pos_iff.2 hne
 obtain ⟨g, cap, rfl, hc0⟩ := owns_at h.row (i := 0) (by simpa using hx0)
 have HL := Lib.hid h
 have HO := Lib.hid ho
 have c0 : w.cell? ⟨L, 0, none⟩ = some (.pointer (some ⟨p, 0, none⟩)) := by rw [cell_of h.head]; rfl
 have c1 : w.cell? ⟨L, 1, none⟩ = some (.slice (some ⟨g, 0, none⟩) xs.length cap) := by rw [cell_of h.head]; rfl
 rw [List.getElem_map] at hc0
 obtain ⟨x0, hx00⟩ : ∃ x0, xs[0] = x0 := ⟨_, rfl⟩
 rw [hx00] at hc0
 unfold pval at hc0
 have hmm := @run_makeMap Try.prog
 have hwl0 : 0 < ws.length := by rw [← h.len]; exact hx0
 have hx1 : D ws[0] x0 := by rw [← hx00]; exact h.at_ 0 hwl0 hx0
 have hws0 : ws.headD [] = ws[0] := by cases ws with | nil => exact (hne rfl).elim | cons a l => rfl
 have hwm : ws[0] ∈ ws := List.getElem_mem _
 generalize ws[0] = w00 at hx1 hws0 hwm
 have hMd : ¬ D.dom w.heap.size := by rintro ⟨v, hv⟩; have := h.td.lt hv; omega
 obtain ⟨w1, hup, hs1, hb1, hq⟩ := QSt.first W h.td hx1 hMd
 have hwl : ws.length = xs.length := h.len.symm
 have c1m := cell_alloc c1 (.map #[] 0)
 have hc0m := cell_alloc hc0 (.map #[] 0)
 have c11 : w1.cell? ⟨L, 1, none⟩ = some (.slice (some ⟨g, 0, none⟩) xs.length cap) := by rw [hb1.cell (p := ⟨L, 1, none⟩) h.Llt]; exact c1
 have hc01 : w1.cell? ⟨g, 0, none⟩ = some (.pointer (some ⟨x0, 0, none⟩)) := by rw [hb1.cell (p := ⟨g, 0, none⟩) (owns_lt h.row rfl).1]; exact hc0
 have HQ0 : Hid (∃ D', QSt w.heap.size (w1.alloc (.cells #[.pointer (some ⟨x0, 0, none⟩)] 69)) D' w.heap.size (.slice (some ⟨w.heap.size + 1, 0, none⟩) 1 1) [w00] [x0] ∧ TD W a b c p F (w1.alloc (.cells #[.pointer (some ⟨x0, 0, none⟩)] 69)) D' ∧ TExt w D (w1.alloc (.cells #[.pointer (some ⟨x0, 0, none⟩)] 69)) D' ∧ BInv W ws [w00] 0 0) := Hi (by
  have hb2 : Below w.heap.size w (w1.alloc (.cells #[.pointer (some ⟨x0, 0, none⟩)] 69)) := hb1.alloc (by omega) _
  exact ⟨D, hq, h.td.below hb2, (TExt.refl w D).stay (Out.of_below hb2), BInv.start W hws0 hwm⟩)
 have HWL := Lib.hid hwl
 have HLEN := Lib.hid hlen
 have hs1 := Lib.hid hs1
 clear h ho c0 c1 hc0 hx1 hws0 hwm hMd hb1 hq hne hx00 hwl hlen
 go_enter Try.func48, Try.ntmps48
 go_wp2_with fail
 rw [hs1.out] at *
 go_loopw [4, 5] (fun qq kk wr => ∃ (qs : List (List (Fin 3))) (ys : List Nat) (D' : Dict) (k : Nat), kk = .int .i64 k ∧ Hid (QSt w.heap.size wr D' w.heap.size qq qs ys ∧ TD W a b c p F wr D' ∧ TExt w D wr D' ∧ BInv W ws qs k 0 ∧ k ≤ qs.length)) (fun _ kk _ => 300 - (intOf kk).toNat)
 case atStart =>
  obtain ⟨D', h1, h2, h3, h4⟩ := HQ0.out
  exact ⟨[w00], [x0], D', 0, rfl, Lib.hid ⟨h1, h2, h3, h4, by simp⟩⟩
 case round =>
  obtain ⟨qs, ys, D', k, rfl, HK⟩ := hrel
  clear hup c1m hc0m c11 hc01 HQ0
  have hyl : ys.length = qs.length := HK.out.1.len
  have hql : qs.length ≤ ws.length := nodup_len HK.out.1.nodup (fun x hx => (HK.out.2.2.2.1.sub x hx).1)
  by_cases hk : k < qs.length
  · obtain ⟨gq, capq, rfl, hq9⟩ := owns_at HK.out.1.row (i := k) (by simp; omega)
    clear hq9
    have k1 : (k : Int) < (ys.length : Int) := by omega
    have HKL := Lib.hid hk
    have HYL := Lib.hid hyl
    clear hyl hk
    go_wp2_with fail
    go_loopw [4, 29] (fun qq ii wq => ∃ (qs : List (List (Fin 3))) (ys : List Nat) (D' : Dict) (i : Nat), ii = .int .i64 i ∧ i ≤ 3 ∧ Hid (QSt w.heap.size wq D' w.heap.size qq qs ys ∧ TD W a b c p F wq D' ∧ TExt w D wq D' ∧ BInv W ws qs k i ∧ k < qs.length)) (fun _ ii _ => 3 - (intOf ii).toNat)
    case atStart => exact ⟨qs, ys, D', 0, rfl, by omega, Lib.hid ⟨HK.out.1, HK.out.2.1, HK.out.2.2.1, HK.out.2.2.2.1, HKL.out⟩⟩
    case round =>
     clear HK HKL HYL hql k1
     obtain ⟨qs, ys, D', i, rfl, hi3, HK⟩ := hrel
     by_cases hi : i < 3
     · obtain ⟨s, rfl⟩ : ∃ s : Fin 3, i = s.val := ⟨⟨i, hi⟩, rfl⟩
       have hyl : ys.length = qs.length := HK.out.1.len
       have hkq := HK.out.2.2.2.2
       have hky : k < ys.length := by omega
       have hql : qs.length ≤ ws.length := nodup_len HK.out.1.nodup (fun x hx => (HK.out.2.2.2.1.sub x hx).1)
       obtain ⟨gq, capq, rfl, hqc⟩ := owns_at HK.out.1.row (i := k) (by simp; omega)
       rw [List.getElem_map] at hqc
       unfold pval at hqc
       have hD := HK.out.1.at_ k hkq hky
       have hLS := HL.out.ext HK.out.2.2.1 HK.out.2.1
       have cL : wr.cell? ⟨L, 0, none⟩ = some (.pointer (some ⟨p, 0, none⟩)) := by rw [cell_of hLS.head]; rfl
       have hul : qs[k].length < 90000 := by have := HLEN.out _ (HK.out.2.2.2.1.sub _ (List.getElem_mem hkq)).1; omega
       have CR := cross_any W HO.out (HK.out.2.1.below (w' := wr.drew) (Below.drew (Below.refl _ _))) hD hul s
       have hnb : Cox.nf W (qs[k] ++ [s]) = Nb W qs[k] s := rfl
       rw [hnb] at CR
       have CR := Lib.hid CR
       have HBS := Hi (fun hn => HK.out.2.2.2.1.skip W hkq hn)
       have HBA := Hi (fun hm => HK.out.2.2.2.1.add W hkq hm)
       have k1 : (k : Int) < (ys.length : Int) := by omega
       have k2 : (0 : Int) ≤ (k : Int) := by omega
       have HYL := Lib.hid hyl
       have HQL := Lib.hid hql
       clear hnb hD hul hLS hql hyl
       generalize Nb W qs[k] s = v at *
       generalize ys[k] = xk at *
       have HTX := Hi (HK.out.2.2.1.stay (w2 := wr.drew) (Out.of_below (Below.drew (Below.refl _ _))))
       have HQD := Hi (HK.out.1.out (Out.of_below (S := fun _ => False) (w' := wr.drew) (Below.drew (Below.refl _ _))) (fun h => h) (fun _ _ h => h))
       by_cases hvw : v ∈ ws
       · by_cases hvq : v ∈ qs
         · have HV := Hi (And.intro hvw hvq)
           clear hvw hvq
           go_wp2_with fail
           go_still_tail 9, (by kernel_rfl)
           go_wp2_with (first
            | (go_at_call 60; refine CR.out.mono ?_; rintro e w3 ⟨D2, y, rfl, hd2, td2, tx2⟩; have HA := has_any (HL.out.ext (HTX.out.trans tx2) td2) hd2; rw [decide_eq_true HV.out.1] at HA; have HA := Lib.hid HA; have HLK := (HQD.out.ext tx2).look td2 hd2; rw [decide_eq_true HV.out.2] at HLK; have H3 := Hi (And.intro hd2 (And.intro td2 tx2)); clear hd2 td2 tx2)
            | (go_at_call 36; refine HA.out.mono ?_; rintro e w4 ⟨rfl, rfl⟩))
           go_roundw
           case rel => exact ⟨qs, ys, _, s.val + 1, by go_num, by omega, Lib.hid ⟨HQD.out.ext H3.out.2.2, H3.out.2.1, HTX.out.trans H3.out.2.2, HBS.out (fun _ => HV.out.2), HK.out.2.2.2.2⟩⟩
           case measure => simp [intOf]; omega
         · have HV := Hi (And.intro hvw hvq)
           obtain ⟨i69, hi69, hz0, hz1, hz2⟩ := info_parts info69
           have y200 : ys.length + 1 ≤ 201 := by have := HYL.out; have := HQL.out; omega
           have m1 : ys.length + 1 ≤ maxLen := by unfold maxLen; omega
           have m2 : (ys.length + 1) * 8 ≤ 140737488355328 := by omega
           clear hvw hvq
           go_wp2_with fail
           go_still_tail 9, (by kernel_rfl)
           go_wp2_with (first
            | (go_at_call 60; refine CR.out.mono ?_; rintro e w3 ⟨D2, y, rfl, hd2, td2, tx2⟩; have HA := has_any (HL.out.ext (HTX.out.trans tx2) td2) hd2; rw [decide_eq_true HV.out.1] at HA; have HA := Lib.hid HA; have HLK := (HQD.out.ext tx2).look td2 hd2; rw [decide_eq_false HV.out.2] at HLK; obtain ⟨w5, hup5, hm5, ho5, hs5⟩ := (HQD.out.ext tx2).put td2 hd2 HV.out.2; have HOW := Hi ((HQD.out.ext tx2).ownsA ho5 (.cells #[.pointer (some ⟨y, 0, none⟩)] 69)); have HHS := Hi (show w.heap.size ≤ (w5.alloc (.cells #[.pointer (some ⟨y, 0, none⟩)] 69)).heap.size by have h1 := (HTX.out.trans tx2).out.size; simp; omega); have H3 := Hi (And.intro hd2 (And.intro td2 (And.intro tx2 (And.intro hm5 (And.intro ho5 hs5))))); clear hd2 td2 tx2 hm5 ho5 hs5)
            | (go_at_call 36; refine HA.out.mono ?_; rintro e w4 ⟨rfl, rfl⟩)
            | (at_builtin; refine wpList_append_lies _ rfl (.tmp 53) (.tmp 55) 67 rfl w.heap.size 69 i69 _ 1 8 Try.underlying67 hi69 hz0 hz1 hz2 rfl (by decide) (.slice (some ⟨gq, 0, none⟩) ys.length capq) ys.length (ys.map pval) rfl HOW.out ⟨w5.heap.size, 0, none⟩ 1 1 [pval y] rfl rfl (World.news_of_block (str_new _ _ _ _ rfl)) (by intro u hu; simp at hu; subst hu; rfl) (by decide) m1 m2 HHS.out _ rfl ?_; intro g9 cap9 w9 hown9 hgr9 hat9 hlt9; have H9 := Hi (And.intro hown9 (And.intro hgr9 hat9)); clear hown9 hgr9 hat9 hlt9))
           have hps : p < w.heap.size := HL.out.plt
           obtain ⟨hpu1, hpu2⟩ := (HQD.out.ext H3.out.2.2.1).push H3.out.2.1 H3.out.1 HV.out.2 H3.out.2.2.2.1 H3.out.2.2.2.2.1 H9.out.1 H9.out.2.1 H9.out.2.2
           have hqe := HQD.out.ext H3.out.2.2.1
           have hS : ∀ b, (b = w.heap.size ∨ (Value.slice (some ⟨gq, 0, none⟩) ys.length capq).ownBlock = some b) → w.heap.size ≤ b := by
            rintro b (rfl | hb)
            · exact Nat.le_refl _
            · exact (owns_lt hqe.row hb).2
           have td9 : TD W a b c p F w9 D2 := H3.out.2.1.out hpu2 (by
            rintro x hx (rfl | hb)
            · exact hqe.sepM hx
            · exact (hqe.sepR x hb).1 hx) (fun h => by have := hS p h; omega)
           refine ⟨⟨qs ++ [v], ys ++ [y], D2, s.val + 1, by go_num, by omega, Lib.hid ⟨hpu1, td9, (HTX.out.trans H3.out.2.2.1).own hpu2 hS, HBA.out HV.out.1, by simp; omega⟩⟩, ?_⟩
           simp [intOf]; omega
       · have HV := Lib.hid hvw
         clear hvw
         go_wp2_with fail
         go_still_tail 9, (by kernel_rfl)
         go_wp2_with (first
          | (go_at_call 60; refine CR.out.mono ?_; rintro e w3 ⟨D2, y, rfl, hd2, td2, tx2⟩; have HA := has_any (HL.out.ext (HTX.out.trans tx2) td2) hd2; rw [decide_eq_false HV.out] at HA; have HA := Lib.hid HA; have H3 := Hi (And.intro hd2 (And.intro td2 tx2)); clear hd2 td2 tx2)
          | (go_at_call 36; refine HA.out.mono ?_; rintro e w4 ⟨rfl, rfl⟩))
         go_roundw
         case rel => exact ⟨qs, ys, _, s.val + 1, by go_num, by omega, Lib.hid ⟨HQD.out.ext H3.out.2.2, H3.out.2.1, HTX.out.trans H3.out.2.2, HBS.out (fun h => (HV.out h).elim), HK.out.2.2.2.2⟩⟩
         case measure => simp [intOf]; omega
     · have hi33 : i = 3 := by omega
       subst hi33
       have hkq := HK.out.2.2.2.2
       have hql : qs.length ≤ ws.length := nodup_len HK.out.1.nodup (fun x hx => (HK.out.2.2.2.1.sub x hx).1)
       have hk200 : k < 200 := by omega
       clear hql hkq
       go_wp2_with fail
       go_roundw
       case rel => exact ⟨qs, ys, D', k + 1, by go_num, Lib.hid ⟨HK.out.1, HK.out.2.1, HK.out.2.2.1, HK.out.2.2.2.1.next W, HK.out.2.2.2.2⟩⟩
       case measure => simp [intOf]; omega
  · have hyne : 0 < ys.length := by rw [hyl]; exact List.length_pos_iff.2 HK.out.2.2.2.1.ne
    obtain ⟨gq, capq, rfl, hq9⟩ := owns_at HK.out.1.row (i := 0) (by simpa using hyne)
    have hLS := HL.out.ext HK.out.2.2.1 HK.out.2.1
    have cL : wr.cell? ⟨L, 1, none⟩ = some (.slice (some ⟨g, 0, none⟩) xs.length cap) := by rw [cell_of hLS.head]; rfl
    have HF := Hi (HK.out.2.2.2.1.fin W (by omega) HK.out.1.nodup HL.out.nodup)
    have HYL := Lib.hid hyl
    have k1 : ¬ (k : Int) < (ys.length : Int) := by omega
    clear hLS hq9 hyl hyne hk hql
    go_wp2_with fail
    go_ret
    refine ⟨_, rfl, ?_, D', HK.out.2.1, HK.out.2.2.1⟩
    rw [← HF.out, ← HYL.out, HWL.out]
    simp
    omega
end Go.Proofs.Ytkndmibmmoikbaa
namespace Go.Proofs.Ytkndmibmmoikbaa
open Go.RowKit
open Cox (Tl)
variable {K : Type} [Cox.OR K] (W : Cox.Tri K)
abbrev EdgeW := List (Fin 3) × Fin 3
def unw (s : ByteArray) : List (Fin 3) := s.data.toList.map fun b => if b = 0 then 0 else if b = 1 then 1 else 2
def mf (n : Int) : Fin 3 := if n = 0 then 0 else if n = 1 then 1 else 2
theorem unw_wb (l : List (Fin 3)) : unw (wb l) = l := by
 unfold unw
 rw [wb_data, List.map_map]
 have : (fun b : UInt8 => if b = 0 then (0 : Fin 3) else if b = 1 then 1 else 2) ∘ (fun i : Fin 3 => UInt8.ofNat i.val) = id := by
  funext i
  match i with
  | 0 => rfl
  | 1 => rfl
  | 2 => rfl
 rw [this, List.map_id]
theorem cw_unw {s : ByteArray} (h : cw s = 0) : s = wb (unw s) ∧ (unw s).length ≤ 60 := by
 obtain ⟨l, rfl, hl⟩ := cw_zero h
 rw [unw_wb]
 exact ⟨rfl, hl⟩
theorem mf_of {n : Int} (h : isMir n) : n = ((mf n).val : Int) := by
 unfold isMir at h
 have : n = 0 ∨ n = 1 ∨ n = 2 := by omega
 rcases this with rfl | rfl | rfl <;> rfl
noncomputable def ned (e : EdgeD) : EdgeW := (Cox.nf W (unw e.tile), mf e.mir)
theorem cedge_good {e : EdgeD} (h : cedge e = 0) : cw e.tile = 0 ∧ isMir e.mir := by
 unfold cedge at h
 by_cases h1 : cw e.tile = 0
 · rw [if_neg (by simp [h1])] at h
   refine ⟨h1, ?_⟩
   by_cases h2 : isMir e.mir
   · exact h2
   · rw [if_neg h2] at h; cases h
 · rw [if_pos h1] at h; exact (h1 h).elim
theorem cpair_good {p : PairD} (h : cpair p = 0) : cedge p.1 = 0 ∧ cedge p.2 = 0 := by
 unfold cpair at h
 by_cases h1 : cedge p.1 = 0
 · rw [if_neg (by simp [h1])] at h; exact ⟨h1, h⟩
 · rw [if_pos h1] at h; exact (h1 h).elim
def Outer (ws : List (List (Fin 3))) (e : EdgeW) : Prop := e.1 ∈ ws ∧ Nb W e.1 e.2 ∉ ws
def PairSeq (ws : List (List (Fin 3))) : List EdgeW → List (EdgeW × EdgeW) → Prop
 | used, [] => ∀ e, Outer W ws e → e ∈ used
 | used, p :: l => Outer W ws p.1 ∧ Outer W ws p.2 ∧ p.1 ∉ used ∧ p.2 ∉ used ∧ p.1.2 = p.2.2 ∧ PairSeq ws (used ++ [p.1, p.2]) l
noncomputable def eds (ps : List PairD) : List (EdgeW × EdgeW) := ps.map fun p => (ned W p.1, ned W p.2)
def ekey (x : Nat) (i : Fin 3) : Value := .agg #[.pointer (some ⟨x, 0, none⟩), .int .i64 (i.val : Int)]
theorem ekey_inj {x y : Nat} {i j : Fin 3} (h : ekey x i = ekey y j) : x = y ∧ i = j := by
 unfold ekey at h
 simp at h
 refine ⟨h.1, Fin.ext ?_⟩
 have := h.2
 omega
theorem edge_kin (w : World) : Mp.Kin Try.prog 113 w (Mp.PairKey w) := by
 obtain ⟨j, hj, _, hj1, _⟩ := info_parts info124
 exact Mp.pair_kin (tp := 69) (te := 124) (ti := 3) w Try.underlying113 rfl rfl rfl rfl (by decide) (by decide) (by kernel_rfl) (by kernel_rfl) (by kernel_rfl) hj (by rw [hj1]; decide)
structure OSt (H : Nat) (w : World) (D : Dict) (A : List (Fin 3) → Nat) (MO : Nat) (os : List EdgeW) (cnt : EdgeW → Nat) : Prop where
 map : MapOf w MO (os.map fun e => (ekey (A e.1) e.2, .int .i64 (cnt e : Nat)))
 nodup : os.Nodup
 at_ : ∀ e, e ∈ os → D e.1 (A e.1)
 lo : H ≤ MO
 sep : ¬ D.dom MO
section
variable {W}
variable {H : Nat} {a b c : Int} {p F : Nat} {w : World} {D : Dict} {A : List (Fin 3) → Nat} {MO : Nat} {os : List EdgeW} {cnt : EdgeW → Nat}
theorem OSt.ext (h : OSt H w D A MO os cnt) {w' : World} {D' : Dict} (g : TExt w D w' D') : OSt H w' D' A MO os cnt :=
 ⟨h.map.keep (g.keep h.map.lt h.sep).1, h.nodup, fun e he => g.more _ _ (h.at_ e he), h.lo, (g.keep h.map.lt h.sep).2⟩
theorem OSt.out (h : OSt H w D A MO os cnt) {S : Nat → Prop} {w' : World} (ho : Out S w w') (hM : ¬ S MO) : OSt H w' D A MO os cnt :=
 ⟨h.map.keep (ho.block MO h.map.lt hM), h.nodup, h.at_, h.lo, h.sep⟩
theorem TD.ekey (td : TD W a b c p F w D) {u : List (Fin 3)} {x : Nat} (hx : D u x) (i : Fin 3) : Mp.PairKey w (ekey x i) := ⟨_, _, rfl, td.key hx⟩
theorem OSt.keys (h : OSt H w D A MO os cnt) (td : TD W a b c p F w D) : ∀ kv ∈ (os.map fun e => (ekey (A e.1) e.2, Value.int .i64 (cnt e : Nat))), Mp.PairKey w kv.1 := by
 intro kv hkv
 obtain ⟨e, he, rfl⟩ := List.mem_map.1 hkv
 exact td.ekey (h.at_ e he) _
theorem OSt.key_inj (h : OSt H w D A MO os cnt) (td : TD W a b c p F w D) {e : EdgeW} (he : e ∈ os) {u : List (Fin 3)} {x : Nat} (hx : D u x) {i : Fin 3} (hk : Go.Proofs.Ytkndmibmmoikbaa.ekey (A e.1) e.2 = Go.Proofs.Ytkndmibmmoikbaa.ekey x i) : e = (u, i) := by
 obtain ⟨h1, h2⟩ := ekey_inj hk
 have h3 := h.at_ e he
 rw [h1] at h3
 have h4 := td.word_inj h3 hx
 obtain ⟨e1, e2⟩ := e
 simp only at h2 h4
 rw [h2, h4]
theorem OSt.fst (os : List EdgeW) (A : List (Fin 3) → Nat) (cnt : EdgeW → Nat) : (os.map fun e => (ekey (A e.1) e.2, Value.int .i64 (cnt e : Nat))).map (·.1) = os.map fun e => ekey (A e.1) e.2 := by
 rw [List.map_map]; rfl
theorem OSt.kn (h : OSt H w D A MO os cnt) (td : TD W a b c p F w D) : ((os.map fun e => (ekey (A e.1) e.2, Value.int .i64 (cnt e : Nat))).map (·.1)).Nodup := by
 rw [OSt.fst, List.nodup_iff_pairwise_ne, List.pairwise_iff_getElem]
 intro i j hi hj hij he
 simp only [List.length_map] at hi hj
 rw [List.getElem_map, List.getElem_map] at he
 have h1 := h.key_inj td (List.getElem_mem hi) (h.at_ _ (List.getElem_mem hj)) he
 have h2 := List.nodup_iff_pairwise_ne.1 h.nodup
 rw [List.pairwise_iff_getElem] at h2
 exact h2 i j hi hj hij h1
theorem OSt.look_in (h : OSt H w D A MO os cnt) (td : TD W a b c p F w D) {u : List (Fin 3)} {x : Nat} (hx : D u x) {i : Fin 3} (hm : (u, i) ∈ os) :
 (Instr.lookup 136 (.map (some MO)) (.agg #[.pointer (some ⟨x, 0, none⟩), .int .i64 (i.val : Int)]) true).run Try.prog w = .ok (.tuple #[.int .i64 (cnt (u, i) : Nat), .bool true]) w := by
 have hA : A u = x := td.addr_inj (h.at_ _ hm) hx
 have := h.map.lookup_in (edge_kin w) (mt := 136) (et := 3) Try.underlying136 (h.keys td) (h.kn td) (k := ekey x i) (v := .int .i64 (cnt (u, i) : Nat)) (List.mem_map.2 ⟨(u, i), hm, by simp only [hA]⟩) true
 exact this
theorem OSt.look_out (h : OSt H w D A MO os cnt) (td : TD W a b c p F w D) {u : List (Fin 3)} {x : Nat} (hx : D u x) {i : Fin 3} (hm : (u, i) ∉ os) :
 (Instr.lookup 136 (.map (some MO)) (.agg #[.pointer (some ⟨x, 0, none⟩), .int .i64 (i.val : Int)]) true).run Try.prog w = .ok (.tuple #[.int .i64 0, .bool false]) w := by
 have := h.map.lookup_out (edge_kin w) (mt := 136) (et := 3) Try.underlying136 (h.keys td) (k := ekey x i) (td.ekey hx i) (by
  rw [OSt.fst]
  intro e
  obtain ⟨e', he', hk⟩ := List.mem_map.1 e
  exact hm (h.key_inj td he' hx hk ▸ he')) (z3 w) true
 exact this
theorem OSt.add (h : OSt H w D A MO os cnt) (td : TD W a b c p F w D) {u : List (Fin 3)} {x : Nat} (hx : D u x) (hA : A u = x) {i : Fin 3} (hm : (u, i) ∉ os) :
 ∃ w1, (Instr.mapUpdate 136 (.map (some MO)) (.agg #[.pointer (some ⟨x, 0, none⟩), .int .i64 (i.val : Int)]) (.int .i64 (cnt (u, i) : Nat))).run Try.prog w = .ok () w1 ∧ OSt H w1 D A MO (os ++ [(u, i)]) cnt ∧ Out (fun b => b = MO) w w1 ∧ w1.heap.size = w.heap.size := by
 obtain ⟨w1, h1, h2, h3, h4⟩ := h.map.update_out (edge_kin w) (mt := 136) (et := 3) Try.underlying136 (h.keys td) (k := ekey x i) (td.ekey hx i) (by
  rw [OSt.fst]
  intro e
  obtain ⟨e', he', hk⟩ := List.mem_map.1 e
  exact hm (h.key_inj td he' hx hk ▸ he')) (.int .i64 (cnt (u, i) : Nat))
 refine ⟨w1, h1, ⟨?_, ?_, ?_, h.lo, h.sep⟩, h3, h4⟩
 · rw [List.map_append]
   simp only [List.map_cons, List.map_nil, hA]
   exact h2
 · rw [List.nodup_append]
   exact ⟨h.nodup, by simp, fun v hv z hz => by simp at hz; subst hz; exact fun e => hm (e ▸ hv)⟩
 · intro e he
   rcases List.mem_append.1 he with he | he
   · exact h.at_ e he
   · simp at he
     subst he
     rw [hA]; exact hx
theorem OSt.bump (h : OSt H w D A MO os cnt) (td : TD W a b c p F w D) {u : List (Fin 3)} {x : Nat} (hx : D u x) {i : Fin 3} (hm : (u, i) ∈ os) (cnt' : EdgeW → Nat) (hc : ∀ e, e ≠ (u, i) → cnt' e = cnt e) :
 ∃ w1, (Instr.mapUpdate 136 (.map (some MO)) (.agg #[.pointer (some ⟨x, 0, none⟩), .int .i64 (i.val : Int)]) (.int .i64 (cnt' (u, i) : Nat))).run Try.prog w = .ok () w1 ∧ OSt H w1 D A MO os cnt' ∧ Out (fun b => b = MO) w w1 ∧ w1.heap.size = w.heap.size := by
 have hA : A u = x := td.addr_inj (h.at_ _ hm) hx
 obtain ⟨j, hj, hje⟩ := List.getElem_of_mem hm
 obtain ⟨w1, h1, h2, h3, h4⟩ := h.map.update_in (edge_kin w) (mt := 136) (et := 3) Try.underlying136 (h.keys td) (h.kn td) (k := ekey x i) (u := .int .i64 (cnt (u, i) : Nat)) (j := j) (by
  rw [List.getElem?_map, List.getElem?_eq_getElem hj, hje]
  simp only [Option.map, hA]) (.int .i64 (cnt' (u, i) : Nat))
 refine ⟨w1, h1, ⟨?_, h.nodup, h.at_, h.lo, h.sep⟩, h3, h4⟩
 have : (os.map fun e => (ekey (A e.1) e.2, Value.int .i64 (cnt e : Nat))).set j (ekey x i, .int .i64 (cnt' (u, i) : Nat)) = os.map fun e => (ekey (A e.1) e.2, Value.int .i64 (cnt' e : Nat)) := by
  refine List.ext_getElem? fun q => ?_
  rw [List.getElem?_set, List.getElem?_map, List.getElem?_map]
  by_cases e : j = q
  · subst e
    rw [if_pos rfl, if_pos (by simpa using hj), List.getElem?_eq_getElem hj, hje]
    simp only [Option.map, hA]
  · rw [if_neg e]
    cases hq : os[q]? with
    | none => rfl
    | some e' =>
     simp only [Option.map]
     rw [hc e' (by
      rintro rfl
      have hq' := List.getElem?_eq_some_iff.1 hq
      have h5 := List.nodup_iff_pairwise_ne.1 h.nodup
      rw [List.pairwise_iff_getElem] at h5
      rcases Nat.lt_or_ge j q with h6 | h6
      · exact h5 j q hj hq'.1 h6 (hje.trans hq'.2.symm)
      · exact h5 q j hq'.1 hj (by omega) (hq'.2.trans hje.symm))]
 rw [this] at h2
 exact h2
end
end Go.Proofs.Ytkndmibmmoikbaa
