/- Chapter 10: Rf6 Rf7 Rd0. -/
import Derived.Test.YtkndmibmmoikbaaC30
import Derived.Deep.OwnRows
set_option linter.all false
set_option maxRecDepth 100000
set_option maxHeartbeats 16000000
namespace Go.Proofs.Ytkndmibmmoikbaa
open Go.RowKit
open Cox (Tl)
theorem info4 : Option.map (fun i => (i.zero, i.size, i.bytes)) (Try.prog.info? 4) = some (some (.bool false), 1, 1) := by kernel_rfl
section
variable {K : Type} [Cox.OR K] (W : Cox.Tri K)
structure TG (ws : List (List (Fin 3))) (qs : List Nat) : Prop where
 nodup : qs.Nodup
 zero : 0 ∈ qs
 rch : ∀ t, t ∈ qs → ∃ h : t < ws.length, Rch W ws (ws.headD []) ws[t]
end
section
variable {K : Type} [Cox.OR K] {W : Cox.Tri K} {ws : List (List (Fin 3))} {qs : List Nat} {f : Nat → Nat → Int}
theorem zidx_at {u : List (Fin 3)} {s : Nat} (h : zidx ws u = (s : Int)) : ∃ h : s < ws.length, ws[s] = u := by
 by_cases hu : u ∈ ws
 · obtain ⟨i, hi, h1, h2⟩ := zidx_mem hu
   have : i = s := by omega
   subst this
   exact ⟨hi, h2⟩
 · have := zidx_not hu
   omega
theorem uidx_at (hnd : ws.Nodup) {t : Nat} (h : t < ws.length) : uidx ws ws[t] = t := by
 obtain ⟨_, hi, he⟩ := uidx_mem (List.getElem_mem h)
 have h5 := List.nodup_iff_pairwise_ne.1 hnd
 rw [List.pairwise_iff_getElem] at h5
 rcases Nat.lt_trichotomy (uidx ws ws[t]) t with h6 | h6 | h6
 · exact (h5 _ _ hi h h6 he).elim
 · exact h6
 · exact (h5 _ _ h hi h6 he.symm).elim
theorem TG.start (h : 0 < ws.length) : TG W ws [0] := ⟨by simp, by simp, fun t ht => by
 simp at ht
 subst ht
 refine ⟨h, ?_⟩
 have : ws.headD [] = ws[0] := by
  cases ws with
  | nil => simp at h
  | cons a l => rfl
 rw [this]
 exact .base⟩
theorem TG.add (hf : ∀ t (h : t < ws.length) (i : Fin 3), f t i.val = zidx ws (Nb W ws[t] i)) (h : TG W ws qs) {t : Nat} (ht : t ∈ qs) (i : Fin 3) {s : Nat} (hs : f t i.val = (s : Int)) (hn : s ∉ qs) : TG W ws (qs ++ [s]) := by
 obtain ⟨htl, hr⟩ := h.rch t ht
 rw [hf t htl i] at hs
 obtain ⟨hsl, he⟩ := zidx_at hs
 refine ⟨?_, List.mem_append_left _ h.zero, fun x hx => ?_⟩
 · rw [List.nodup_append]
   exact ⟨h.nodup, by simp, fun v hv z hz => by simp at hz; subst hz; exact fun e => hn (e ▸ hv)⟩
 · rcases List.mem_append.1 hx with hx | hx
   · exact h.rch x hx
   · simp at hx
     subst hx
     refine ⟨hsl, ?_⟩
     rw [he]
     exact .step i hr (he ▸ List.getElem_mem hsl)
theorem TG.le (h : TG W ws qs) : qs.length ≤ ws.length := by
 have := nodup_le qs (List.range ws.length) h.nodup (fun x hx => List.mem_range.2 (h.rch x hx).1)
 simpa using this
theorem TG.lt (h : TG W ws qs) {t : Nat} (ht : t ∈ qs) : t < ws.length := (h.rch t ht).1
theorem TG.fin (hf : ∀ t (h : t < ws.length) (i : Fin 3), f t i.val = zidx ws (Nb W ws[t] i)) (h : TG W ws qs) (hnd : ws.Nodup) (hl : 0 < ws.length) (hc : ∀ t, t ∈ qs → ∀ (i : Fin 3) (s : Nat), f t i.val = (s : Int) → s ∈ qs) : qs.length = ws.length ↔ Conn W ws := by
 constructor
 · intro he u hu
   obtain ⟨i, hi, rfl⟩ := List.getElem_of_mem hu
   by_cases hin : i ∈ qs
   · exact (h.rch i hin).2
   · have := nodup_le (i :: qs) (List.range ws.length) (List.nodup_cons.2 ⟨hin, h.nodup⟩) (fun x hx => by
      rcases List.mem_cons.1 hx with rfl | hx
      · exact List.mem_range.2 hi
      · exact List.mem_range.2 (h.lt hx))
     simp at this
     omega
 · intro hco
   have key : ∀ u, Rch W ws (ws.headD []) u → uidx ws u ∈ qs ∧ u ∈ ws := by
    intro u hu
    induction hu with
    | base =>
     have e : ws.headD [] = ws[0] := by
      cases ws with
      | nil => simp at hl
      | cons a l => rfl
     rw [e]
     refine ⟨?_, List.getElem_mem hl⟩
     have : zidx ws ws[0] = ((0 : Nat) : Int) := by
      unfold zidx
      cases ws with
      | nil => simp at hl
      | cons a l => simp [List.findIdx?_cons]
     have h2 := (uidx_mem (List.getElem_mem hl)).1
     have : uidx ws ws[0] = 0 := by omega
     rw [this]
     exact h.zero
    | step i hr hin ih =>
     refine ⟨?_, hin⟩
     rename_i u
     obtain ⟨hui, hue⟩ := (uidx_mem ih.2).2
     have := hf _ hui i
     rw [hue] at this
     exact hc _ ih.1 i _ (this.trans (uidx_mem hin).1.symm)
   refine Nat.le_antisymm h.le ?_
   have := nodup_le (List.range ws.length) qs (by exact List.nodup_range) (fun t ht => by
    have htl := List.mem_range.1 ht
    have h3 := (key _ (hco _ (List.getElem_mem htl))).1
    rw [uidx_at hnd htl] at h3
    exact h3)
   simpa using this
end
def metRow (n : Nat) (qs : List Nat) : List Value := (List.range n).map fun t => .bool (decide (t ∈ qs))
theorem metRow_at {n : Nat} {qs : List Nat} {t : Nat} (h : t < n) : (metRow n qs)[t]? = some (.bool (decide (t ∈ qs))) := by
 unfold metRow
 rw [List.getElem?_map, List.getElem?_range h]; rfl
theorem metRow_set {n : Nat} {qs : List Nat} {s : Nat} (h : s < n) : (metRow n qs).set s (.bool true) = metRow n (qs ++ [s]) := by
 refine List.ext_getElem? fun k => ?_
 rw [List.getElem?_set]
 by_cases e : s = k
 · subst e
   rw [if_pos rfl, metRow_at h, if_pos (by unfold metRow; simpa using h)]
   simp
 · rw [if_neg e]
   by_cases hk : k < n
   · rw [metRow_at hk, metRow_at hk]
     have : (k ∈ qs ++ [s]) ↔ k ∈ qs := by
      simp
      exact fun h => (e h.symm).elim
     simp only [this]
   · rw [List.getElem?_eq_none (by unfold metRow; simp; omega), List.getElem?_eq_none (by unfold metRow; simp; omega)]
theorem metRow_nil (n : Nat) : metRow n [] = List.replicate n (.bool false) := by
 refine List.ext_getElem? fun k => ?_
 by_cases hk : k < n
 · rw [metRow_at hk, List.getElem?_replicate, if_pos hk]; simp
 · rw [List.getElem?_eq_none (by unfold metRow; simp; omega), List.getElem?_eq_none (by simp; omega)]
theorem idx103 (x0 x1 x2 : Int) (f : Nat → Int) (h0 : f 0 = x0) (h1 : f 1 = x1) (h2 : f 2 = x2) (i : Nat) (hi : i < 3) (w : World) : (Instr.index 103 (.agg #[.int .i64 x0, .int .i64 x1, .int .i64 x2]) (.int .i64 (i : Nat))).run Try.prog w = .ok (.int .i64 (f i)) w := by
 have e0 : (Instr.index 103 (.agg #[.int .i64 x0, .int .i64 x1, .int .i64 x2]) (.int .i64 0)).run Try.prog w = .ok (.int .i64 x0) w := by kernel_rfl
 have e1 : (Instr.index 103 (.agg #[.int .i64 x0, .int .i64 x1, .int .i64 x2]) (.int .i64 1)).run Try.prog w = .ok (.int .i64 x1) w := by kernel_rfl
 have e2 : (Instr.index 103 (.agg #[.int .i64 x0, .int .i64 x1, .int .i64 x2]) (.int .i64 2)).run Try.prog w = .ok (.int .i64 x2) w := by kernel_rfl
 have : i = 0 ∨ i = 1 ∨ i = 2 := by omega
 rcases this with rfl | rfl | rfl
 · rw [h0]; exact e0
 · rw [h1]; exact e1
 · rw [h2]; exact e2
structure TgSt {K : Type} [Cox.OR K] (W : Cox.Tri K) (B : Nat) (w : World) (ws : List (List (Fin 3))) (g : Nat) (qs : List Nat) (wr : World) : Prop where
 tg : TG W ws qs
 bel : Below B w wr
 own : wr.ownsRow B 4 1 (.slice (some ⟨g, 0, none⟩) ws.length ws.length) ws.length (metRow ws.length qs)
def PassI (f : Nat → Nat → Int) (n0 t0 i0 : Nat) (qs : List Nat) (more : Bool) : Prop :=
 n0 ≤ qs.length ∧ (more = true → n0 < qs.length) ∧ (more = false → ∀ t i, (t < t0 ∨ (t = t0 ∧ i < i0)) → i < 3 → t ∈ qs → ∀ s : Nat, f t i = (s : Int) → s ∈ qs)
theorem PassI.next {f : Nat → Nat → Int} {n0 t0 : Nat} {qs : List Nat} {more : Bool} (h : PassI f n0 t0 3 qs more) : PassI f n0 (t0 + 1) 0 qs more :=
 ⟨h.1, h.2.1, fun hm t i hti hi ht s hs => h.2.2 hm t i (by omega) hi ht s hs⟩
theorem PassI.no {f : Nat → Nat → Int} {n0 t0 i0 : Nat} {qs : List Nat} {more : Bool} (h : PassI f n0 t0 i0 qs more) (hc : t0 ∈ qs → ∀ s : Nat, f t0 i0 = (s : Int) → s ∈ qs) : PassI f n0 t0 (i0 + 1) qs more :=
 ⟨h.1, h.2.1, fun hm t i hti hi ht s hs => by
   by_cases e : t = t0 ∧ i = i0
   · obtain ⟨rfl, rfl⟩ := e
     exact hc ht s hs
   · exact h.2.2 hm t i (by omega) hi ht s hs⟩
theorem PassI.yes {f : Nat → Nat → Int} {n0 t0 i0 : Nat} {qs : List Nat} {more : Bool} (h : PassI f n0 t0 i0 qs more) (s : Nat) : PassI f n0 t0 (i0 + 1) (qs ++ [s]) true :=
 ⟨by have := h.1; simp; omega, fun _ => by have := h.1; simp; omega, fun hm => by cases hm⟩
theorem TgSt.below {K : Type} [Cox.OR K] {W : Cox.Tri K} {B : Nat} {w : World} {ws : List (List (Fin 3))} {g : Nat} {qs : List Nat} {wr w' : World} (h : TgSt W B w ws g qs wr) (hB : B ≤ wr.heap.size) (hb : Below wr.heap.size wr w') : TgSt W B w ws g qs w' :=
 ⟨h.tg, h.bel.trans (hb.mono hB), owns_keep h.own (fun q hq => hb.block _ (owns_lt h.own hq).1)⟩
theorem TgSt.put {K : Type} [Cox.OR K] {W : Cox.Tri K} {B : Nat} {w : World} {ws : List (List (Fin 3))} {g : Nat} {qs : List Nat} {wr : World} {f : Nat → Nat → Int} (hf : ∀ t (h : t < ws.length) (i : Fin 3), f t i.val = zidx ws (Nb W ws[t] i)) (h : TgSt W B w ws g qs wr) {t : Nat} (ht : t ∈ qs) (i : Fin 3) {s : Nat} (hs : f t i.val = (s : Int)) (hn : s ∉ qs) :
 TgSt W B w ws g (qs ++ [s]) (wr.setCell ⟨g, s, none⟩ (.bool true)) := by
 have hg := h.tg.add hf ht i hs hn
 have hsl := hg.lt (List.mem_append_right _ (List.mem_singleton.2 rfl))
 obtain ⟨h1, h2⟩ := h.own.stored s (.bool true)
 rw [metRow_set hsl] at h1
 exact ⟨hg, h.bel.setCell (by show B ≤ g; exact (owns_lt h.own rfl).2) _, h1⟩
theorem TgSt.look {K : Type} [Cox.OR K] {W : Cox.Tri K} {B : Nat} {w : World} {ws : List (List (Fin 3))} {g : Nat} {qs : List Nat} {wr : World} (h : TgSt W B w ws g qs wr) {t : Nat} (ht : t < ws.length) : wr.cell? ⟨g, t, none⟩ = some (.bool (decide (t ∈ qs))) ∧ wr.frozen? ⟨g, t, none⟩ = false := by
 obtain ⟨g', cap, hv, hc⟩ := owns_at h.own (i := t) (by unfold metRow; simpa using ht)
 have hg : g = g' := by simp at hv; exact hv.1
 have h2 := metRow_at (qs := qs) ht
 rw [List.getElem?_eq_getElem (by unfold metRow; simpa using ht)] at h2
 exact ⟨by rw [hg, hc]; exact h2, h.own.frozenAt t⟩
theorem together_any {K : Type} [Cox.OR K] {W : Cox.Tri K} {a b c : Int} (ws : List (List (Fin 3))) (hwl : ws.length ≤ 200) (hw0 : 0 < ws.length) (hnd : ws.Nodup) (v3 v4 : Value) (w : World) (pt pto : Option Addr) (ct cto : Nat) (f : Nat → Nat → Int) (hto : TosAt w pto ws.length f)
 (hf : ∀ t (h : t < ws.length) (i : Fin 3), f t i.val = zidx ws (Nb W ws[t] i)) :
 Calls Try.prog 40 #[lval a b c (.slice pt ws.length ct) pto ws.length cto v3 v4] w fun e w' => ∃ bb : Bool, e = .returned (.bool bb) ∧ (bb = true ↔ Conn W ws) ∧ Below w.heap.size w w' := by
 obtain ⟨Q, hQ⟩ : ∃ Q : Ending → World → Prop, Q = fun e w' => ∃ bb : Bool, e = .returned (.bool bb) ∧ (bb = true ↔ Conn W ws) ∧ Below w.heap.size w w' := ⟨_, rfl⟩
 rw [← hQ]
 have HR : Hid (∀ w' (bb : Bool), (bb = true ↔ Conn W ws) → Below w.heap.size w w' → Q (.returned (.bool bb)) w') := Hi (fun w' bb h1 h2 => by rw [hQ]; exact ⟨bb, rfl, h1, h2⟩)
 clear hQ
 have HF := Lib.hid hf
 have HND := Lib.hid hnd
 unfold lval
 have hb0 := (Below.refl w.heap.size w).alloc (Nat.le_refl _) (.cells #[.int .i64 a, .int .i64 b, .int .i64 c, .slice pt ws.length ct, .slice pto ws.length cto, v3, v4] 54)
 have hc0 := str_new w #[.int .i64 a, .int .i64 b, .int .i64 c, .slice pt ws.length ct, .slice pto ws.length cto, v3, v4] 54 _ rfl
 have hs0 : (w.alloc (.cells #[.int .i64 a, .int .i64 b, .int .i64 c, .slice pt ws.length ct, .slice pto ws.length cto, v3, v4] 54)).heap.size = w.heap.size + 1 := by simp
 have HTO := Hi (hto.below hb0)
 have hmk := fun w => run_make_row' (P := Try.prog) 135 4 (.bool false) 1 Try.underlying135 info4 rfl .i64 .i64 ws.length (by omega) (by omega) w
 clear hto hf hnd
 go_enter Try.func40, Try.ntmps40
 go_upto_region 1 with fail
 generalize w.alloc (.cells #[.int .i64 a, .int .i64 b, .int .i64 c, .slice pt ws.length ct, .slice pto ws.length cto, v3, v4] 54) = w1 at *
 have HB := Hi (And.intro hb0 hc0)
 have k0 : w1.cell? ⟨w.heap.size, 3, none⟩ = some (.slice pt ws.length ct) := by rw [cell_of hc0]; rfl
 have HS0 := Lib.hid hs0
 clear hb0 hc0 hs0
 go_upto_region 2 with fail
 have hbm := (Below.refl w1.heap.size w1).alloc (Nat.le_refl _) (.cells (madeCells #[.bool false] ws.length) 4)
 have hom : (w1.alloc (.cells (madeCells #[.bool false] ws.length) 4)).ownsRow (w.heap.size + 1) 4 1 (.slice (some ⟨w1.heap.size, 0, none⟩) ws.length ws.length) ws.length (List.replicate ws.length (.bool false)) := by
  have h1 := str_new w1 (madeCells #[.bool false] ws.length) 4 _ rfl
  have h2 := toList_madeCells_one (.bool false) ws.length
  refine ⟨by simp, .inr ⟨w1.heap.size, ws.length, _, rfl, by have := HS0.out; omega, h1, Nat.le_refl _, by unfold maxLen; omega, ?_, ?_⟩⟩
  · have := congrArg List.length h2
    simpa using this
  · rw [h2]; simp
 generalize w1.alloc (.cells (madeCells #[.bool false] ws.length) 4) = w2 at *
 have HBM := Lib.hid hbm
 clear hbm hmk k0
 generalize hgw : w1.heap.size = g at *
 have HGW := Lib.hid hgw
 clear hgw
 have HOM := Lib.hid hom
 obtain ⟨g', cap', hv, c0⟩ := owns_at hom (i := 0) (by simpa using hw0)
 have hg : g = g' := by simp at hv; exact hv.1
 rw [← hg, List.getElem_replicate] at c0
 have f0 := hom.frozenAt 0
 have w0' : (0 : Int) < (ws.length : Int) := by omega
 clear hom hv hg
 go_upto_region 3 with fail
 have HT0 : Hid (TgSt W (w.heap.size + 1) w1 ws g [0] (w2.setCell ⟨g, 0, none⟩ (.bool true))) := Hi (by
  have hg := HS0.out
  obtain ⟨h1, h2⟩ := HOM.out.stored 0 (.bool true)
  rw [← metRow_nil, metRow_set hw0] at h1
  exact ⟨TG.start hw0, (HBM.out.mono (by omega)).setCell (by show w.heap.size + 1 ≤ g; omega) _, h1⟩)
 generalize w2.setCell ⟨g, 0, none⟩ (.bool true) = w3 at *
 clear c0 f0 w0' HOM HBM
 have HCB : Hid (∀ wr, Below (w.heap.size + 1) w1 wr → wr.cell? ⟨w.heap.size, 3, none⟩ = some (.slice pt ws.length ct) ∧ wr.cell? ⟨w.heap.size, 4, none⟩ = some (.slice pto ws.length cto)) := Hi (fun wr hb => by
  have h1 := (hb.block _ (by omega)).trans HB.out.2
  exact ⟨by rw [cell_of h1]; rfl, by rw [cell_of h1]; rfl⟩)
 go_wp2_with fail
 go_loopw [4, 5] (fun t4 t5 wr => ∃ (qs : List Nat) (more : Bool), t4 = .int .i64 (qs.length : Nat) ∧ t5 = .bool more ∧ Hid (TgSt W (w.heap.size + 1) w1 ws g qs wr ∧ (more = false → ∀ t i, i < 3 → t ∈ qs → ∀ s : Nat, f t i = (s : Int) → s ∈ qs))) (fun t4 t5 _ => match t5 with | .bool true => ws.length + 1 - (intOf t4).toNat | _ => 0)
 case atStart => exact ⟨[0], true, rfl, rfl, Lib.hid ⟨HT0.out, fun h => by cases h⟩⟩
 case round =>
  obtain ⟨qs0, more0, rfl, rfl, H0⟩ := hrel
  have HQ0 := Lib.hid H0.out.1.tg.le
  cases more0 with
  | false =>
   have k3 := (HCB.out _ H0.out.1.bel).1
   have HFN := Hi (H0.out.1.tg.fin HF.out HND.out hw0 (fun t ht i s hs => H0.out.2 rfl t i.val i.isLt ht s hs))
   have HBW : Hid (Below w.heap.size w wr) := Hi (HB.out.1.trans (H0.out.1.bel.mono (by omega)))
   by_cases he : qs0.length = ws.length
   · have HC := Hi (HFN.out.1 he)
     have e0 : ((qs0.length : Int) == (ws.length : Int)) = true := by rw [he]; simp
     clear he
     go_wp2_with fail
     exact HR.out _ true ⟨fun _ => HC.out, fun _ => rfl⟩ HBW.out
   · have HC := Hi (fun h => he (HFN.out.2 h))
     have e0 : ((qs0.length : Int) == (ws.length : Int)) = false := by
      have : (qs0.length : Int) ≠ (ws.length : Int) := by omega
      simpa using this
     clear he
     go_wp2_with fail
     exact HR.out _ false ⟨fun h => (by cases h), fun h => (HC.out h).elim⟩ HBW.out
  | true =>
   have k4 := (HCB.out _ H0.out.1.bel).2
   go_wp2_with fail
   clear k4
   obtain ⟨n0, hn0⟩ : ∃ n0, n0 = qs0.length := ⟨_, rfl⟩
   go_loopw [4, 5, 20] (fun t4 t5 t20 wq => ∃ (qs : List Nat) (more : Bool) (t : Nat), t4 = .int .i64 (qs.length : Nat) ∧ t5 = .bool more ∧ t20 = .int .i64 (t : Nat) ∧ t ≤ ws.length ∧ Hid (TgSt W (w.heap.size + 1) w1 ws g qs wq ∧ PassI f n0 t 0 qs more)) (fun _ _ t20 _ => ws.length - (intOf t20).toNat)
   case atStart => exact ⟨qs0, false, 0, rfl, rfl, rfl, by omega, Lib.hid ⟨H0.out.1, ⟨by omega, fun h => (by cases h), fun _ t i h => by omega⟩⟩⟩
   case round =>
    obtain ⟨qs, more, t, rfl, rfl, rfl, ht, H1⟩ := hrel
    by_cases hlt : t < ws.length
    · obtain ⟨b1, o1, hpt, hrow⟩ := (HTO.out) (by omega)
      have hbl : ∀ i, i < 3 → wr.cell? ⟨b1, o1 + t * 3 + i, none⟩ = some (.int .i64 (f t i)) := fun i hi => by
       have h1 := hrow t i hlt hi
       have h2 := World.block_lt_of_cell? w1 _ h1
       rw [H1.out.1.bel.cell (p := ⟨b1, o1 + t * 3 + i, none⟩) (by have h8 := HS0.out; have h9 := HGW.out; show b1 < w.heap.size + 1; have h10 : b1 < w1.heap.size := h2; omega)]
       exact h1
      have q0 := hbl 0 (by omega)
      have q1 := hbl 1 (by omega)
      have q2 := hbl 2 (by omega)
      simp only [Nat.add_zero] at q0
      clear hbl hrow
      have t1 : (t : Int) < (ws.length : Int) := by omega
      have t2 : (0 : Int) ≤ (t : Int) := by omega
      have HTL := Lib.hid hlt
      have HIX := Hi (fun i hi w => idx103 (f t 0) (f t 1) (f t 2) (f t) rfl rfl rfl i hi w)
      subst hpt
      go_upto_region 10 with fail
      have hwa := (Below.refl wr.heap.size wr).alloc (Nat.le_refl _) (.cells #[.int .i64 (f t 0), .int .i64 (f t 1), .int .i64 (f t 2)] 103)
      have hca := str_new wr #[.int .i64 (f t 0), .int .i64 (f t 1), .int .i64 (f t 2)] 103 _ rfl
      generalize wr.alloc (.cells #[.int .i64 (f t 0), .int .i64 (f t 1), .int .i64 (f t 2)] 103) = wa at *
      have a0 : wa.cell? ⟨wr.heap.size, 0, none⟩ = some (.int .i64 (f t 0)) := by rw [cell_of hca]; rfl
      have a1 : wa.cell? ⟨wr.heap.size, 1, none⟩ = some (.int .i64 (f t 1)) := by rw [cell_of hca]; rfl
      have a2 : wa.cell? ⟨wr.heap.size, 2, none⟩ = some (.int .i64 (f t 2)) := by rw [cell_of hca]; rfl
      have HA : Hid (TgSt W (w.heap.size + 1) w1 ws g qs wa) := Hi (H1.out.1.below (by
       have h1 := (owns_lt H1.out.1.own (g := g) rfl).1
       have h2 := HS0.out
       omega) hwa)
      clear hwa hca q0 q1 q2
      go_wp2_with fail
      clear a0 a1 a2
      go_loopw [4, 5, 26] (fun t4 t5 t26 wz => ∃ (qs : List Nat) (more : Bool) (i : Nat), t4 = .int .i64 (qs.length : Nat) ∧ t5 = .bool more ∧ t26 = .int .i64 (i : Nat) ∧ i ≤ 3 ∧ Hid (TgSt W (w.heap.size + 1) w1 ws g qs wz ∧ PassI f n0 t i qs more)) (fun _ _ t26 _ => 3 - (intOf t26).toNat)
      case atStart => exact ⟨qs, more, 0, rfl, rfl, rfl, by omega, Lib.hid ⟨HA.out, H1.out.2⟩⟩
      case round =>
       obtain ⟨ps, more, i, rfl, rfl, rfl, hi, H2⟩ := hrel
       by_cases hi3 : i < 3
       · have hix := HIX.out i hi3
         have i1 : (i : Int) < 3 := by omega
         have HI3 := Lib.hid hi3
         obtain ⟨c0, _⟩ := H2.out.1.look HTL.out
         have HNX := Hi (fun (h : t ∈ ps → ∀ s : Nat, f t i = (s : Int) → s ∈ ps) => H2.out.2.no h)
         obtain ⟨fv, hfv⟩ : ∃ fv, f t i = fv := ⟨_, rfl⟩
         rw [hfv] at hix HNX
         have HFV := Lib.hid hfv
         clear hfv
         by_cases hm : t ∈ ps
         case neg =>
          have HN := Hi (HNX.out (fun h => (hm h).elim))
          rw [decide_eq_false hm] at c0
          clear hm HNX
          go_wp2_with fail
          go_roundw
          case rel => exact ⟨ps, more, i + 1, rfl, rfl, by go_num, by omega, Lib.hid ⟨H2.out.1, HN.out⟩⟩
          case measure => simp [intOf]; omega
         case pos =>
          have HM := Lib.hid hm
          rw [decide_eq_true hm] at c0
          by_cases hs : 0 ≤ fv
          case neg =>
           have HN := Hi (HNX.out (fun _ s hs2 => by omega))
           have d0 : decide (fv ≥ 0) = false := decide_eq_false hs
           clear hm HNX hs
           go_wp2_with fail
           go_roundw
           case rel => exact ⟨ps, more, i + 1, rfl, rfl, by go_num, by omega, Lib.hid ⟨H2.out.1, HN.out⟩⟩
           case measure => simp [intOf]; omega
          case pos =>
           have d0 : decide (fv ≥ 0) = true := decide_eq_true hs
           obtain ⟨s, hs2⟩ : ∃ s : Nat, fv = (s : Int) := ⟨fv.toNat, by omega⟩
           subst hs2
           have hsl : s < ws.length := by
            have h1 := HF.out t HTL.out ⟨i, HI3.out⟩
            have h2 : f t i = (s : Int) := HFV.out
            exact (zidx_at (h1.symm.trans h2)).1
           obtain ⟨c1, c2⟩ := H2.out.1.look hsl
           have s1 : (s : Int) < (ws.length : Int) := by omega
           have s2 : (0 : Int) ≤ (s : Int) := by omega
           by_cases hsm : s ∈ ps
           · have HN := Lib.hid (HNX.out (fun _ s' hs' => by have : s = s' := by omega
                                                             rw [← this]; exact hsm))
             rw [decide_eq_true hsm] at c1
             clear hm HNX hs hsm hsl
             go_wp2_with fail
             go_roundw
             case rel => exact ⟨ps, more, i + 1, rfl, rfl, by go_num, by omega, Lib.hid ⟨H2.out.1, HN.out⟩⟩
             case measure => simp [intOf]; omega
           · have HP := Hi (H2.out.1.put HF.out HM.out ⟨i, HI3.out⟩ HFV.out hsm)
             rw [decide_eq_false hsm] at c1
             have HPL := Lib.hid HP.out.tg.le
             have p1 : ps.length + 1 ≤ 200 := by have := HPL.out; simp at this; omega
             clear hm HNX hs hsm hsl
             go_wp2_with fail
             go_roundw
             case rel => exact ⟨ps ++ [s], true, i + 1, by simp, rfl, by go_num, by omega, Lib.hid ⟨HP.out, H2.out.2.yes s⟩⟩
             case measure => simp [intOf]; omega
       · have hie : i = 3 := by omega
         subst hie
         go_wp2_with fail
         go_roundw
         case rel => exact ⟨ps, more, t + 1, rfl, rfl, by go_num, HTL.out, Lib.hid ⟨H2.out.1, H2.out.2.next⟩⟩
         case measure =>
          have := HTL.out
          simp [intOf]; omega
    · have hte : t = ws.length := by omega
      subst hte
      have t1 : ¬ (ws.length : Int) < (ws.length : Int) := by omega
      have HRL : Hid (more = false → ∀ t i, i < 3 → t ∈ qs → ∀ s : Nat, f t i = (s : Int) → s ∈ qs) := Hi (fun hm t i hi ht s hs => H1.out.2.2.2 hm t i (.inl (H1.out.1.tg.lt ht)) hi ht s hs)
      have HMS : Hid (more = true → qs0.length < qs.length ∧ qs.length ≤ ws.length) := Hi (fun hm => ⟨hn0 ▸ H1.out.2.2.1 hm, H1.out.1.tg.le⟩)
      go_wp2_with fail
      go_roundw
      case rel => exact ⟨qs, more, rfl, rfl, Lib.hid ⟨H1.out.1, HRL.out⟩⟩
      case measure =>
       cases more with
       | false =>
        have := HQ0.out
        simp [intOf]; omega
       | true =>
        have := HMS.out rfl
        simp [intOf]; omega
end Go.Proofs.Ytkndmibmmoikbaa
namespace Go.Proofs.Ytkndmibmmoikbaa
open Go.RowKit
open Cox (Tl)
theorem wrap_u8_fin (i : Fin 3) : IntKind.u8.wrap (i.val : Int) = (i.val : Int) := by
 match i with
 | 0 => rfl
 | 1 => rfl
 | 2 => rfl
theorem nf_len_le {K : Type} [Cox.OR K] (W : Cox.Tri K) (l : List (Fin 3)) : (Cox.nf W l).length ≤ l.length := Cox.nf_le W l
theorem nf_nb {K : Type} [Cox.OR K] (W : Cox.Tri K) (u : List (Fin 3)) (i : Fin 3) : Cox.nf W (u ++ [i]) = Nb W u i := rfl
theorem redge_any {K : Type} [Cox.OR K] {W : Cox.Tri K} {a b c : Int} (hrw : RW W a b c) (ws : List (List (Fin 3))) (hwl : ws.length ≤ 1000) (w : World) (pt : Option Addr) (ct : Nat) (hts : StrsAt w pt (ws.map wb)) (e : EdgeD) (hcw : cw e.tile = 0) (hm : isMir e.mir) :
 Calls Try.prog 41 #[oval a b c, .slice pt ws.length ct, .agg #[.string e.tile, .int .i64 e.mir]] w fun r w' => Below w.heap.size w w' ∧
  (((ned W e).1 ∈ ws ∧ r = .returned (.tuple #[.int .i64 (uidx ws (ned W e).1 : Nat), .bool (decide (Nb W (ned W e).1 (ned W e).2 ∉ ws))])) ∨ ((ned W e).1 ∉ ws ∧ r = .returned (.tuple #[.int .i64 0, .bool false]))) := by
 obtain ⟨Q, hQ⟩ : ∃ Q : Ending → World → Prop, Q = fun r w' => Below w.heap.size w w' ∧
  (((ned W e).1 ∈ ws ∧ r = .returned (.tuple #[.int .i64 (uidx ws (ned W e).1 : Nat), .bool (decide (Nb W (ned W e).1 (ned W e).2 ∉ ws))])) ∨ ((ned W e).1 ∉ ws ∧ r = .returned (.tuple #[.int .i64 0, .bool false]))) := ⟨_, rfl⟩
 rw [← hQ]
 obtain ⟨u, hu⟩ : ∃ u, (ned W e).1 = u := ⟨_, rfl⟩
 obtain ⟨i, hi⟩ : ∃ i, (ned W e).2 = i := ⟨_, rfl⟩
 rw [hu, hi] at hQ
 have HYES : Hid (∀ w' (bb : Bool), u ∈ ws → bb = decide (Nb W u i ∉ ws) → Below w.heap.size w w' → Q (.returned (.tuple #[.int .i64 (uidx ws u : Nat), .bool bb])) w') := Hi (fun w' bb h1 h2 h3 => by rw [hQ]; exact ⟨h3, .inl ⟨h1, by rw [h2]⟩⟩)
 have HNO : Hid (∀ w', u ∉ ws → Below w.heap.size w w' → Q (.returned (.tuple #[.int .i64 0, .bool false])) w') := Hi (fun w' h1 h2 => by rw [hQ]; exact ⟨h2, .inr ⟨h1, rfl⟩⟩)
 clear hQ
 obtain ⟨tl, mir⟩ := e
 obtain ⟨l, hl, hl60⟩ : ∃ l, tl = wb l ∧ l.length ≤ 60 := ⟨_, (cw_unw hcw).1, (cw_unw hcw).2⟩
 subst hl
 have hul : u = Cox.nf W l := by rw [← hu]; unfold ned; simp only [unw_wb]
 have hmi : mir = (i.val : Int) := by rw [← hi]; exact mf_of hm
 subst hmi
 have hu60 : u.length ≤ 60 := by rw [hul]; have := nf_len_le W l; omega
 have WL := Hi (fun w => hrw l (by omega) w)
 rw [← hul] at WL
 have WN := Hi (fun w => hrw (u ++ [i]) (by simp; omega) w)
 have IX : Hid (∀ w5 v, Below w.heap.size w w5 → Calls Try.prog 39 #[.slice pt ws.length ct, .string (wb v)] w5 fun e w' => e = .returned (.int .i64 (zidx ws v)) ∧ w' = w5) := Hi (fun w5 v hb5 => by
  have := index_any (ws.map wb) (wb v) pt ct (by simp; omega) w5 (hts.below hb5)
  rw [place_wb, List.length_map] at this
  exact this)
 rw [nf_nb] at WN
 have hap := wb_append u [i]
 have hz1 : (wb [i]).size = 1 := by rw [wb_size]; rfl
 have hwl2 : (wb u).size ≤ 1000000 := by rw [wb_size]; omega
 have hsz : ¬ 9223372036854775807 < (wb u).size + 1 := by omega
 have hcv := fun W b o => conv_byte i W ⟨b, o, none⟩ rfl
 have hwr := wrap_u8_fin i
 have hb0 : Below w.heap.size w ((w.alloc (.cells #[.int .i64 a, .int .i64 b, .int .i64 c] 23)).alloc (.cells #[.string (wb l), .int .i64 (i.val : Int)] 40)) := ((Below.refl _ _).alloc (Nat.le_refl _) _).alloc (by simp) _
 have hc0 : ((w.alloc (.cells #[.int .i64 a, .int .i64 b, .int .i64 c] 23)).alloc (.cells #[.string (wb l), .int .i64 (i.val : Int)] 40)).heap[w.heap.size]? = some (.cells #[.int .i64 a, .int .i64 b, .int .i64 c] 23 (0, 0)) := str_old _ _ (str_new _ _ _ _ rfl)
 have hc1 : ((w.alloc (.cells #[.int .i64 a, .int .i64 b, .int .i64 c] 23)).alloc (.cells #[.string (wb l), .int .i64 (i.val : Int)] 40)).heap[w.heap.size + 1]? = some (.cells #[.string (wb l), .int .i64 (i.val : Int)] 40 (0, 0)) := str_new _ _ _ _ (by simp)
 unfold oval at *
 clear hts hrw hcw hm hu hi hul hu60 hl60 hwl2
 go_enter Try.func41, Try.ntmps41
 go_upto_region 1 with fail
 generalize (w.alloc (.cells #[.int .i64 a, .int .i64 b, .int .i64 c] 23)).alloc (.cells #[.string (wb l), .int .i64 (i.val : Int)] 40) = wa at *
 have HB := Hi (And.intro hb0 (And.intro hc0 hc1))
 have k0 : wa.cell? ⟨w.heap.size, 0, none⟩ = some (.int .i64 a) := by rw [cell_of hc0]; rfl
 have k1 : wa.cell? ⟨w.heap.size, 1, none⟩ = some (.int .i64 b) := by rw [cell_of hc0]; rfl
 have k2 : wa.cell? ⟨w.heap.size, 2, none⟩ = some (.int .i64 c) := by rw [cell_of hc0]; rfl
 have k3 : wa.cell? ⟨w.heap.size + 1, 0, none⟩ = some (.string (wb l)) := by rw [cell_of hc1]; rfl
 have k4 : wa.cell? ⟨w.heap.size + 1, 1, none⟩ = some (.int .i64 (i.val : Int)) := by rw [cell_of hc1]; rfl
 have HLE := Hi (show w.heap.size ≤ wa.heap.size from hb0.size)
 clear hb0 hc0 hc1
 generalize hbl : w.heap.size = bl at k0 k1 k2 k3 k4
 have HBL := Lib.hid hbl
 clear hbl
 by_cases hin : u ∈ ws
 case neg =>
  have z1 : decide (zidx ws u < 0) = true := decide_eq_true (zidx_neg.2 hin)
  have HIN := Lib.hid hin
  clear hin
  go_wp2_with (first | (go_at_call 38; refine (WL.out _).mono ?_; rintro e w3 ⟨rfl, hb3⟩; have HB3 := Hi (HB.out.1.trans (hb3.mono HLE.out)); clear hb3) | (go_at_call 39; refine (IX.out _ _ HB3.out).mono ?_; rintro e w4 ⟨rfl, h4⟩; subst w4))
  exact HNO.out _ HIN.out HB3.out
 case pos =>
  have z0 := (uidx_mem hin).1
  have z1 : decide (zidx ws u < 0) = false := decide_eq_false (fun h => (zidx_neg.1 h) hin)
  have HIN := Hi (And.intro hin z0)
  clear hin z0
  go_upto_region 5 with (first | (go_at_call 38; with_reducible refine (WL.out _).mono ?_; rintro e w3 ⟨rfl, hb3⟩; have HB3 := Hi (And.intro (HB.out.1.trans (hb3.mono HLE.out)) hb3); have m0 := cell_stays hb3 k0; have m1 := cell_stays hb3 k1; have m2 := cell_stays hb3 k2; have m4 := cell_stays hb3 k4; clear hb3) | (go_at_call 39; refine (IX.out _ _ HB3.out.1).mono ?_; rintro e w4 ⟨rfl, h4⟩; subst w4))
  clear k0 k1 k2 k3 k4
  have hba := (Below.refl w3.heap.size w3).alloc (Nat.le_refl _) (.cells #[.int .u8 (i.val : Int)] 5)
  have HBA := Lib.hid hba
  clear hba
  by_cases hn : Nb W u i ∉ ws
  · have z2 : decide (zidx ws (Nb W u i) < 0) = true := decide_eq_true (zidx_neg.2 hn)
    have HN := Hi (decide_eq_true hn)
    clear hn
    go_wp2_with (first | (go_at_call 38; with_reducible refine (WN.out _).mono ?_; rintro e w5 ⟨rfl, hb5⟩; have HB5 := Hi (HB3.out.1.trans ((HBA.out.trans (hb5.mono HBA.out.size)).mono HB3.out.1.size)); clear hb5) | (go_at_call 39; refine (IX.out _ _ HB5.out).mono ?_; rintro e w6 ⟨rfl, h6⟩; subst w6))
    rw [← HIN.out.2]
    exact HYES.out _ true HIN.out.1 HN.out.symm HB5.out
  · have z2 : decide (zidx ws (Nb W u i) < 0) = false := decide_eq_false (fun h => hn (zidx_neg.1 h))
    have HN := Hi (decide_eq_false hn)
    clear hn
    go_wp2_with (first | (go_at_call 38; with_reducible refine (WN.out _).mono ?_; rintro e w5 ⟨rfl, hb5⟩; have HB5 := Hi (HB3.out.1.trans ((HBA.out.trans (hb5.mono HBA.out.size)).mono HB3.out.1.size)); clear hb5) | (go_at_call 39; refine (IX.out _ _ HB5.out).mono ?_; rintro e w6 ⟨rfl, h6⟩; subst w6))
    rw [← HIN.out.2]
    exact HYES.out _ false HIN.out.1 HN.out.symm HB5.out
end Go.Proofs.Ytkndmibmmoikbaa
namespace Go.Proofs.Ytkndmibmmoikbaa
open Go.RowKit
open Cox (Tl)
theorem info9 : Option.map (fun i => (i.zero, i.size, i.bytes)) (Try.prog.info? 9) = some (some (.string ⟨#[]⟩), 1, 16) := by kernel_rfl
theorem info103 : Option.map (fun i => (i.zero, i.size, i.bytes)) (Try.prog.info? 103) = some (some (.agg #[.int .i64 0, .int .i64 0, .int .i64 0]), 3, 24) := by kernel_rfl
def row3 (n : Nat) (f : Nat → Nat → Int) : List Value := (List.range (n * 3)).map fun k => .int .i64 (f (k / 3) (k % 3))
def upd3 (f : Nat → Nat → Int) (t i : Nat) (v : Int) : Nat → Nat → Int := fun t' i' => if t' = t ∧ i' = i then v else f t' i'
theorem row3_len (n : Nat) (f : Nat → Nat → Int) : (row3 n f).length = n * 3 := by unfold row3; simp
theorem row3_get {n : Nat} {f : Nat → Nat → Int} {k : Nat} (h : k < n * 3) : (row3 n f)[k]? = some (.int .i64 (f (k / 3) (k % 3))) := by
 unfold row3
 rw [List.getElem?_map, List.getElem?_range h]; rfl
theorem row3_at {n : Nat} {f : Nat → Nat → Int} {t i : Nat} (ht : t < n) (hi : i < 3) : (row3 n f)[t * 3 + i]? = some (.int .i64 (f t i)) := by
 rw [row3_get (by omega)]
 have h1 : (t * 3 + i) / 3 = t := by omega
 have h2 : (t * 3 + i) % 3 = i := by omega
 rw [h1, h2]
theorem row3_set {n : Nat} {f : Nat → Nat → Int} {t i : Nat} (ht : t < n) (hi : i < 3) (v : Int) : (row3 n f).set (t * 3 + i) (.int .i64 v) = row3 n (upd3 f t i v) := by
 refine List.ext_getElem? fun k => ?_
 rw [List.getElem?_set]
 by_cases e : t * 3 + i = k
 · subst e
   rw [if_pos rfl, if_pos (by rw [row3_len]; omega), row3_at ht hi]
   unfold upd3
   rw [if_pos ⟨rfl, rfl⟩]
 · rw [if_neg e]
   by_cases hk : k < n * 3
   · rw [row3_get hk, row3_get hk]
     unfold upd3
     rw [if_neg (by omega)]
   · rw [List.getElem?_eq_none (by rw [row3_len]; omega), List.getElem?_eq_none (by rw [row3_len]; omega)]
theorem row3_push (n : Nat) (f : Nat → Nat → Int) : row3 n f ++ [.int .i64 (f n 0), .int .i64 (f n 1), .int .i64 (f n 2)] = row3 (n + 1) f := by
 refine List.ext_getElem? fun k => ?_
 by_cases h1 : k < n * 3
 · rw [List.getElem?_append_left (by rw [row3_len]; exact h1), row3_get h1, row3_get (by omega)]
 · rw [List.getElem?_append_right (by rw [row3_len]; omega), row3_len]
   by_cases h2 : k < (n + 1) * 3
   · rw [row3_get h2]
     have h3 : k = n * 3 ∨ k = n * 3 + 1 ∨ k = n * 3 + 2 := by omega
     have e0 : (n * 3 + 0) / 3 = n ∧ (n * 3 + 0) % 3 = 0 := by omega
     have e1 : (n * 3 + 1) / 3 = n ∧ (n * 3 + 1) % 3 = 1 := by omega
     have e2 : (n * 3 + 2) / 3 = n ∧ (n * 3 + 2) % 3 = 2 := by omega
     rcases h3 with rfl | rfl | rfl
     · have := e0; rw [Nat.add_zero] at this; rw [this.1, this.2, Nat.sub_self]; rfl
     · rw [e1.1, e1.2]
       have : n * 3 + 1 - n * 3 = 1 := by omega
       rw [this]; rfl
     · rw [e2.1, e2.2]
       have : n * 3 + 2 - n * 3 = 2 := by omega
       rw [this]; rfl
   · have e1 : (row3 (n + 1) f)[k]? = none := List.getElem?_eq_none (by rw [row3_len]; omega)
     rw [e1]
     have : 3 ≤ k - n * 3 := by omega
     exact List.getElem?_eq_none (by simpa using this)
theorem owns_cell {w : World} {B : Nat} {e : TypeId} {n size : Nat} {v : Value} {xs : List Value} (h : w.ownsRow B e size v n xs) {i : Nat} (hi : i < xs.length) : ∃ g cap, v = .slice (some ⟨g, 0, none⟩) n cap ∧ w.cell? ⟨g, i, none⟩ = xs[i]? ∧ B ≤ g := by
 obtain ⟨h1, h2⟩ := h
 rcases h2 with ⟨_, h2⟩ | ⟨g, cap, cur, hv, hb, hg, hn, _, hs, ht⟩
 · subst h2; simp at h1; subst h1; simp at hi
 · refine ⟨g, cap, hv, ?_, hb⟩
   rw [cell_of hg, ← ht, List.getElem?_take, if_pos (by omega)]
   simp
theorem owns_type {w : World} {B : Nat} {e : TypeId} {n size : Nat} {v : Value} {xs : List Value} (h : w.ownsRow B e size v n xs) {g : Nat} (hg : v.ownBlock = some g) : ∃ cs, w.heap[g]? = some (.cells cs e (0, 0)) := by
 rcases h.2 with ⟨h2, _⟩ | ⟨g', cap, cur, hv, hb, hh, _⟩
 · rw [h2] at hg; cases hg
 · rw [hv] at hg
   have : g' = g := by simpa [Value.ownBlock] using hg
   subst this
   exact ⟨cur, hh⟩
theorem owns_form {w : World} {B : Nat} {e : TypeId} {n size : Nat} {v : Value} {xs : List Value} (h : w.ownsRow B e size v n xs) : ∃ p cap, v = .slice p n cap := by
 rcases h.2 with ⟨h1, h2⟩ | ⟨g, cap, cur, hv, _⟩
 · exact ⟨none, 0, by rw [h1, h2]⟩
 · exact ⟨_, cap, hv⟩
structure LRep (H bl bo br : Nat) (a b c : Int) (vt vto vput vm : Value) (ts : List ByteArray) (n m : Nat) (f g : Nat → Nat → Int) (ms : List ByteArray) (wi w : World) : Prop where
 box : w.heap[bl]? = some (.cells #[.int .i64 a, .int .i64 b, .int .i64 c, vt, vto, vput, vm] 54 (0, 0))
 ord : w.heap[bo]? = some (.cells #[.int .i64 a, .int .i64 b, .int .i64 c] 23 (0, 0))
 res : w.heap[br]? = some (.cells #[.int .i64 0, .int .i64 0, .int .i64 0, .slice none 0 0, .slice none 0 0, .slice none 0 0, .slice none 0 0] 54 (0, 0))
 rT : w.ownsRow H 9 1 vt ts.length (ts.map .string)
 rTo : w.ownsRow H 103 3 vto n (row3 n f)
 rPut : w.ownsRow H 103 3 vput m (row3 m g)
 rM : w.ownsRow H 9 1 vm ms.length (ms.map .string)
 sepTP : ∀ q, vto.ownBlock = some q → vput.ownBlock ≠ some q
 sepTM : ∀ q, vt.ownBlock = some q → vm.ownBlock ≠ some q
 bel : Below wi.heap.size wi w
 big : bl < H ∧ bo < H ∧ br < H ∧ H ≤ w.heap.size ∧ bl ≠ br ∧ wi.heap.size ≤ bl
theorem grown_keep {w w' : World} {o : Obj} {r : Option Nat} (hgr : (w.alloc o).grownBy w' r) {q : Nat} (hq : q < w.heap.size) (hne : r ≠ some q) : w'.heap[q]? = w.heap[q]? := by
 rw [hgr.block q (by simp; omega) (fun e => hne e.symm)]
 exact Below.heap_alloc _ _ _ hq
theorem row_after {w w' : World} {o : Obj} {r : Option Nat} (hgr : (w.alloc o).grownBy w' r) {B : Nat} {e : TypeId} {n size : Nat} {v : Value} {xs : List Value} (h : w.ownsRow B e size v n xs) (hne : ∀ q, v.ownBlock = some q → r ≠ some q) : w'.ownsRow B e size v n xs :=
 owns_keep h (fun q hq => grown_keep hgr (owns_lt h hq).1 (hne q hq))
theorem row_set {w : World} {B : Nat} {e : TypeId} {n size : Nat} {v : Value} {xs : List Value} (h : w.ownsRow B e size v n xs) {bl o : Nat} (hne : v.ownBlock ≠ some bl) (x : Value) : (w.setCell ⟨bl, o, none⟩ x).ownsRow B e size v n xs :=
 owns_keep h (fun q hq => by rw [heap_setCell', if_neg (by rintro rfl; exact hne hq)])
theorem type_ne {w : World} {B B' : Nat} {e e' : TypeId} {n n' size size' : Nat} {v v' : Value} {xs xs' : List Value} (h : w.ownsRow B e size v n xs) (h' : w.ownsRow B' e' size' v' n' xs') (hne : e ≠ e') {q : Nat} (hq : v.ownBlock = some q) : v'.ownBlock ≠ some q := by
 intro hq'
 obtain ⟨cs, h1⟩ := owns_type h hq
 obtain ⟨cs', h2⟩ := owns_type h' hq'
 rw [h1] at h2
 simp at h2
 exact hne h2.2
section
variable {H bl bo br : Nat} {a b c : Int} {vt vto vput vm : Value} {ts : List ByteArray} {n m : Nat} {f g : Nat → Nat → Int} {ms : List ByteArray} {wi w : World}
theorem LRep.below (h : LRep H bl bo br a b c vt vto vput vm ts n m f g ms wi w) {w' : World} (hb : Below w.heap.size w w') : LRep H bl bo br a b c vt vto vput vm ts n m f g ms wi w' where
 box := (hb.block _ (Array.getElem?_eq_some_iff.1 h.box).1).trans h.box
 ord := (hb.block _ (Array.getElem?_eq_some_iff.1 h.ord).1).trans h.ord
 res := (hb.block _ (Array.getElem?_eq_some_iff.1 h.res).1).trans h.res
 rT := owns_keep h.rT (fun q hq => hb.block _ (owns_lt h.rT hq).1)
 rTo := owns_keep h.rTo (fun q hq => hb.block _ (owns_lt h.rTo hq).1)
 rPut := owns_keep h.rPut (fun q hq => hb.block _ (owns_lt h.rPut hq).1)
 rM := owns_keep h.rM (fun q hq => hb.block _ (owns_lt h.rM hq).1)
 sepTP := h.sepTP
 sepTM := h.sepTM
 bel := h.bel.trans (hb.mono h.bel.size)
 big := ⟨h.big.1, h.big.2.1, h.big.2.2.1, Nat.le_trans h.big.2.2.2.1 hb.size, h.big.2.2.2.2⟩
theorem LRep.cells (h : LRep H bl bo br a b c vt vto vput vm ts n m f g ms wi w) : w.cell? ⟨bl, 3, none⟩ = some vt ∧ w.cell? ⟨bl, 4, none⟩ = some vto ∧ w.cell? ⟨bl, 5, none⟩ = some vput ∧ w.cell? ⟨bl, 6, none⟩ = some vm ∧ w.cell? ⟨bo, 0, none⟩ = some (.int .i64 a) ∧ w.cell? ⟨bo, 1, none⟩ = some (.int .i64 b) ∧ w.cell? ⟨bo, 2, none⟩ = some (.int .i64 c) :=
 ⟨by rw [cell_of h.box]; rfl, by rw [cell_of h.box]; rfl, by rw [cell_of h.box]; rfl, by rw [cell_of h.box]; rfl, by rw [cell_of h.ord]; rfl, by rw [cell_of h.ord]; rfl, by rw [cell_of h.ord]; rfl⟩
theorem LRep.strs {ws : List (List (Fin 3))} (h : LRep H bl bo br a b c vt vto vput vm (ws.map wb) n m f g ms wi w) : ∃ pt ct, vt = .slice pt ws.length ct ∧ StrsAt w pt (ws.map wb) := by
 obtain ⟨pt, ct, hv⟩ := owns_form h.rT
 rw [List.length_map] at hv
 refine ⟨pt, ct, hv, fun hne => ?_⟩
 have hl : 0 < (ws.map wb).length := List.length_pos_iff.2 hne
 obtain ⟨q, cap, hv2, _⟩ := owns_at h.rT (i := 0) (by simpa using hl)
 refine ⟨q, 0, ?_, fun i hi => ?_⟩
 · rw [hv] at hv2; simp at hv2; exact hv2.1
 · obtain ⟨q', cap', hv3, hc⟩ := owns_at h.rT (i := i) (by rw [List.length_map]; exact hi)
   have : q = q' := by rw [hv2] at hv3; simp at hv3; exact hv3.1
   rw [Nat.zero_add, this, hc, List.getElem_map]
theorem rowsAt {B : Nat} {v : Value} {k : Nat} {h : Nat → Nat → Int} (hr : w.ownsRow B 103 3 v k (row3 k h)) : ∃ p cap, v = .slice p k cap ∧ TosAt w p k h := by
 obtain ⟨p, cap, hv⟩ := owns_form hr
 refine ⟨p, cap, hv, fun hk => ?_⟩
 obtain ⟨q, cap', hv2, _, _⟩ := owns_cell hr (i := 0) (by rw [row3_len]; omega)
 refine ⟨q, 0, ?_, fun t i ht hi => ?_⟩
 · rw [hv] at hv2; simp at hv2; exact hv2.1
 · obtain ⟨q', cap', hv3, hc, _⟩ := owns_cell hr (i := t * 3 + i) (by rw [row3_len]; omega)
   have : q = q' := by rw [hv2] at hv3; simp at hv3; exact hv3.1
   rw [Nat.zero_add, this, hc, row3_at ht hi]
theorem LRep.pushT (h : LRep H bl bo br a b c vt vto vput vm ts n m f g ms wi w) {o9 : Obj} {w9 : World} {q9 cap9 : Nat} {s : ByteArray} (hown : w9.ownsRow H 9 1 (.slice (some ⟨q9, 0, none⟩) (ts.length + 1) cap9) (ts.length + 1) (ts.map .string ++ [.string s])) (hgr : (w.alloc o9).grownBy w9 vt.ownBlock) (hat : vt.ownBlock = some q9 ∨ q9 = (w.alloc o9).heap.size) :
 LRep H bl bo br a b c (.slice (some ⟨q9, 0, none⟩) (ts.length + 1) cap9) vto vput vm (ts ++ [s]) n m f g ms wi (w9.setCell ⟨bl, 3, none⟩ (.slice (some ⟨q9, 0, none⟩) (ts.length + 1) cap9)) where
 box := by
  have h9 := grown_keep hgr (q := bl) (Array.getElem?_eq_some_iff.1 h.box).1 (fun e => by have := (owns_lt h.rT e).2; have := h.big; omega)
  rw [heap_setCell', if_pos rfl, h9, h.box]; rfl
 ord := by
  have h9 := grown_keep hgr (q := bo) (Array.getElem?_eq_some_iff.1 h.ord).1 (fun e => by have := (owns_lt h.rT e).2; have := h.big; omega)
  rw [heap_setCell', if_neg (fun e => by have h1 := h9.trans h.ord; have h2 := h.box; rw [e] at h1; have h3 := (grown_keep hgr (q := bl) (Array.getElem?_eq_some_iff.1 h.box).1 (fun e => by have := (owns_lt h.rT e).2; have := h.big; omega)).trans h.box; rw [h1] at h3; cases h3), h9]; exact h.ord
 res := by
  have h9 := grown_keep hgr (q := br) (Array.getElem?_eq_some_iff.1 h.res).1 (fun e => by have := (owns_lt h.rT e).2; have := h.big; omega)
  rw [heap_setCell', if_neg (fun e => h.big.2.2.2.2.1 e.symm), h9]; exact h.res
 rT := by
  have hown2 := (owns_lt hown (g := q9) rfl).2
  have := row_set hown (bl := bl) (o := 3) (fun e => by have h8 := h.big.1; have e8 : q9 = bl := (by simpa [Value.ownBlock] using e); omega) (.slice (some ⟨q9, 0, none⟩) (ts.length + 1) cap9)
  rw [List.length_append, List.map_append]
  exact this
 rTo := row_set (row_after hgr h.rTo (fun q hq => type_ne h.rTo h.rT (by decide) hq)) (fun e => by have := (owns_lt h.rTo e).2; have := h.big.1; omega) _
 rPut := row_set (row_after hgr h.rPut (fun q hq => type_ne h.rPut h.rT (by decide) hq)) (fun e => by have := (owns_lt h.rPut e).2; have := h.big.1; omega) _
 rM := row_set (row_after hgr h.rM (fun q hq e => h.sepTM q e hq)) (fun e => by have := (owns_lt h.rM e).2; have := h.big.1; omega) _
 sepTP := h.sepTP
 sepTM := fun q hq0 hq => by
  have e8 : q = q9 := by simpa [Value.ownBlock] using hq0.symm
  exact by
   rcases hat with e9 | e9
   · exact (fun q hq e => h.sepTM q e hq) q hq (e9.trans (congrArg some e8.symm))
   · have := (owns_lt h.rM hq).1
     rw [World.size_alloc] at e9
     omega
 bel := by
  have h1 : wi.heap.size ≤ H := by have := h.big; omega
  have h2 : Below wi.heap.size w w9 := Below.grown ((Below.refl _ _).alloc (Nat.le_trans h.bel.size (Nat.le_refl _)) _) hgr (by have := h.bel.size; simp; omega) (fun q hq => by have := (owns_lt h.rT hq).2; omega)
  exact (h.bel.trans h2).setCell (by show wi.heap.size ≤ bl; have := h.big; omega) _
 big := by
  have h1 := hgr.size
  rw [World.size_alloc] at h1
  have h2 := h.big
  refine ⟨h2.1, h2.2.1, h2.2.2.1, ?_, h2.2.2.2.2⟩
  show H ≤ (w9.setCell _ _).heap.size
  simp [World.setCell]
  omega
theorem LRep.pushTo (h : LRep H bl bo br a b c vt vto vput vm ts n m f g ms wi w) {o9 : Obj} {w9 : World} {q9 cap9 : Nat}  (hown : w9.ownsRow H 103 3 (.slice (some ⟨q9, 0, none⟩) (n + 1) cap9) (n + 1) (row3 n f ++ [.int .i64 (f n 0), .int .i64 (f n 1), .int .i64 (f n 2)])) (hgr : (w.alloc o9).grownBy w9 vto.ownBlock) (hat : vto.ownBlock = some q9 ∨ q9 = (w.alloc o9).heap.size) :
 LRep H bl bo br a b c vt (.slice (some ⟨q9, 0, none⟩) (n + 1) cap9) vput vm ts (n + 1) m f g ms wi (w9.setCell ⟨bl, 4, none⟩ (.slice (some ⟨q9, 0, none⟩) (n + 1) cap9)) where
 box := by
  have h9 := grown_keep hgr (q := bl) (Array.getElem?_eq_some_iff.1 h.box).1 (fun e => by have := (owns_lt h.rTo e).2; have := h.big; omega)
  rw [heap_setCell', if_pos rfl, h9, h.box]; rfl
 ord := by
  have h9 := grown_keep hgr (q := bo) (Array.getElem?_eq_some_iff.1 h.ord).1 (fun e => by have := (owns_lt h.rTo e).2; have := h.big; omega)
  rw [heap_setCell', if_neg (fun e => by have h1 := h9.trans h.ord; have h2 := h.box; rw [e] at h1; have h3 := (grown_keep hgr (q := bl) (Array.getElem?_eq_some_iff.1 h.box).1 (fun e => by have := (owns_lt h.rTo e).2; have := h.big; omega)).trans h.box; rw [h1] at h3; cases h3), h9]; exact h.ord
 res := by
  have h9 := grown_keep hgr (q := br) (Array.getElem?_eq_some_iff.1 h.res).1 (fun e => by have := (owns_lt h.rTo e).2; have := h.big; omega)
  rw [heap_setCell', if_neg (fun e => h.big.2.2.2.2.1 e.symm), h9]; exact h.res
 rT := row_set (row_after hgr h.rT (fun q hq => type_ne h.rT h.rTo (by decide) hq)) (fun e => by have := (owns_lt h.rT e).2; have := h.big.1; omega) _
 rTo := by
  have hown2 := (owns_lt hown (g := q9) rfl).2
  have := row_set hown (bl := bl) (o := 4) (fun e => by have h8 := h.big.1; have e8 : q9 = bl := (by simpa [Value.ownBlock] using e); omega) (.slice (some ⟨q9, 0, none⟩) (n + 1) cap9)
  rw [row3_push] at this
  exact this
 rPut := row_set (row_after hgr h.rPut (fun q hq e => h.sepTP q e hq)) (fun e => by have := (owns_lt h.rPut e).2; have := h.big.1; omega) _
 rM := row_set (row_after hgr h.rM (fun q hq => type_ne h.rM h.rTo (by decide) hq)) (fun e => by have := (owns_lt h.rM e).2; have := h.big.1; omega) _
 sepTP := fun q hq0 hq => by
  have e8 : q = q9 := by simpa [Value.ownBlock] using hq0.symm
  exact by
   rcases hat with e9 | e9
   · exact (fun q hq e => h.sepTP q e hq) q hq (e9.trans (congrArg some e8.symm))
   · have := (owns_lt h.rPut hq).1
     rw [World.size_alloc] at e9
     omega
 sepTM := h.sepTM
 bel := by
  have h1 : wi.heap.size ≤ H := by have := h.big; omega
  have h2 : Below wi.heap.size w w9 := Below.grown ((Below.refl _ _).alloc (Nat.le_trans h.bel.size (Nat.le_refl _)) _) hgr (by have := h.bel.size; simp; omega) (fun q hq => by have := (owns_lt h.rTo hq).2; omega)
  exact (h.bel.trans h2).setCell (by show wi.heap.size ≤ bl; have := h.big; omega) _
 big := by
  have h1 := hgr.size
  rw [World.size_alloc] at h1
  have h2 := h.big
  refine ⟨h2.1, h2.2.1, h2.2.2.1, ?_, h2.2.2.2.2⟩
  show H ≤ (w9.setCell _ _).heap.size
  simp [World.setCell]
  omega
theorem LRep.pushPut (h : LRep H bl bo br a b c vt vto vput vm ts n m f g ms wi w) {o9 : Obj} {w9 : World} {q9 cap9 : Nat}  (hown : w9.ownsRow H 103 3 (.slice (some ⟨q9, 0, none⟩) (m + 1) cap9) (m + 1) (row3 m g ++ [.int .i64 (g m 0), .int .i64 (g m 1), .int .i64 (g m 2)])) (hgr : (w.alloc o9).grownBy w9 vput.ownBlock) (hat : vput.ownBlock = some q9 ∨ q9 = (w.alloc o9).heap.size) :
 LRep H bl bo br a b c vt vto (.slice (some ⟨q9, 0, none⟩) (m + 1) cap9) vm ts n (m + 1) f g ms wi (w9.setCell ⟨bl, 5, none⟩ (.slice (some ⟨q9, 0, none⟩) (m + 1) cap9)) where
 box := by
  have h9 := grown_keep hgr (q := bl) (Array.getElem?_eq_some_iff.1 h.box).1 (fun e => by have := (owns_lt h.rPut e).2; have := h.big; omega)
  rw [heap_setCell', if_pos rfl, h9, h.box]; rfl
 ord := by
  have h9 := grown_keep hgr (q := bo) (Array.getElem?_eq_some_iff.1 h.ord).1 (fun e => by have := (owns_lt h.rPut e).2; have := h.big; omega)
  rw [heap_setCell', if_neg (fun e => by have h1 := h9.trans h.ord; have h2 := h.box; rw [e] at h1; have h3 := (grown_keep hgr (q := bl) (Array.getElem?_eq_some_iff.1 h.box).1 (fun e => by have := (owns_lt h.rPut e).2; have := h.big; omega)).trans h.box; rw [h1] at h3; cases h3), h9]; exact h.ord
 res := by
  have h9 := grown_keep hgr (q := br) (Array.getElem?_eq_some_iff.1 h.res).1 (fun e => by have := (owns_lt h.rPut e).2; have := h.big; omega)
  rw [heap_setCell', if_neg (fun e => h.big.2.2.2.2.1 e.symm), h9]; exact h.res
 rT := row_set (row_after hgr h.rT (fun q hq => type_ne h.rT h.rPut (by decide) hq)) (fun e => by have := (owns_lt h.rT e).2; have := h.big.1; omega) _
 rTo := row_set (row_after hgr h.rTo (fun q hq => h.sepTP q hq)) (fun e => by have := (owns_lt h.rTo e).2; have := h.big.1; omega) _
 rPut := by
  have hown2 := (owns_lt hown (g := q9) rfl).2
  have := row_set hown (bl := bl) (o := 5) (fun e => by have h8 := h.big.1; have e8 : q9 = bl := (by simpa [Value.ownBlock] using e); omega) (.slice (some ⟨q9, 0, none⟩) (m + 1) cap9)
  rw [row3_push] at this
  exact this
 rM := row_set (row_after hgr h.rM (fun q hq => type_ne h.rM h.rPut (by decide) hq)) (fun e => by have := (owns_lt h.rM e).2; have := h.big.1; omega) _
 sepTP := fun q hq hq0 => by
  have e8 : q = q9 := by simpa [Value.ownBlock] using hq0.symm
  exact by
   rcases hat with e9 | e9
   · exact (fun q hq => h.sepTP q hq) q hq (e9.trans (congrArg some e8.symm))
   · have := (owns_lt h.rTo hq).1
     rw [World.size_alloc] at e9
     omega
 sepTM := h.sepTM
 bel := by
  have h1 : wi.heap.size ≤ H := by have := h.big; omega
  have h2 : Below wi.heap.size w w9 := Below.grown ((Below.refl _ _).alloc (Nat.le_trans h.bel.size (Nat.le_refl _)) _) hgr (by have := h.bel.size; simp; omega) (fun q hq => by have := (owns_lt h.rPut hq).2; omega)
  exact (h.bel.trans h2).setCell (by show wi.heap.size ≤ bl; have := h.big; omega) _
 big := by
  have h1 := hgr.size
  rw [World.size_alloc] at h1
  have h2 := h.big
  refine ⟨h2.1, h2.2.1, h2.2.2.1, ?_, h2.2.2.2.2⟩
  show H ≤ (w9.setCell _ _).heap.size
  simp [World.setCell]
  omega
theorem LRep.pushM (h : LRep H bl bo br a b c vt vto vput vm ts n m f g ms wi w) {o9 : Obj} {w9 : World} {q9 cap9 : Nat} {s : ByteArray} (hown : w9.ownsRow H 9 1 (.slice (some ⟨q9, 0, none⟩) (ms.length + 1) cap9) (ms.length + 1) (ms.map .string ++ [.string s])) (hgr : (w.alloc o9).grownBy w9 vm.ownBlock) (hat : vm.ownBlock = some q9 ∨ q9 = (w.alloc o9).heap.size) :
 LRep H bl bo br a b c vt vto vput (.slice (some ⟨q9, 0, none⟩) (ms.length + 1) cap9) ts n m f g (ms ++ [s]) wi (w9.setCell ⟨bl, 6, none⟩ (.slice (some ⟨q9, 0, none⟩) (ms.length + 1) cap9)) where
 box := by
  have h9 := grown_keep hgr (q := bl) (Array.getElem?_eq_some_iff.1 h.box).1 (fun e => by have := (owns_lt h.rM e).2; have := h.big; omega)
  rw [heap_setCell', if_pos rfl, h9, h.box]; rfl
 ord := by
  have h9 := grown_keep hgr (q := bo) (Array.getElem?_eq_some_iff.1 h.ord).1 (fun e => by have := (owns_lt h.rM e).2; have := h.big; omega)
  rw [heap_setCell', if_neg (fun e => by have h1 := h9.trans h.ord; have h2 := h.box; rw [e] at h1; have h3 := (grown_keep hgr (q := bl) (Array.getElem?_eq_some_iff.1 h.box).1 (fun e => by have := (owns_lt h.rM e).2; have := h.big; omega)).trans h.box; rw [h1] at h3; cases h3), h9]; exact h.ord
 res := by
  have h9 := grown_keep hgr (q := br) (Array.getElem?_eq_some_iff.1 h.res).1 (fun e => by have := (owns_lt h.rM e).2; have := h.big; omega)
  rw [heap_setCell', if_neg (fun e => h.big.2.2.2.2.1 e.symm), h9]; exact h.res
 rT := row_set (row_after hgr h.rT (fun q hq => h.sepTM q hq)) (fun e => by have := (owns_lt h.rT e).2; have := h.big.1; omega) _
 rTo := row_set (row_after hgr h.rTo (fun q hq => type_ne h.rTo h.rM (by decide) hq)) (fun e => by have := (owns_lt h.rTo e).2; have := h.big.1; omega) _
 rPut := row_set (row_after hgr h.rPut (fun q hq => type_ne h.rPut h.rM (by decide) hq)) (fun e => by have := (owns_lt h.rPut e).2; have := h.big.1; omega) _
 rM := by
  have hown2 := (owns_lt hown (g := q9) rfl).2
  have := row_set hown (bl := bl) (o := 6) (fun e => by have h8 := h.big.1; have e8 : q9 = bl := (by simpa [Value.ownBlock] using e); omega) (.slice (some ⟨q9, 0, none⟩) (ms.length + 1) cap9)
  rw [List.length_append, List.map_append]
  exact this
 sepTP := h.sepTP
 sepTM := fun q hq hq0 => by
  have e8 : q = q9 := by simpa [Value.ownBlock] using hq0.symm
  exact by
   rcases hat with e9 | e9
   · exact (fun q hq => h.sepTM q hq) q hq (e9.trans (congrArg some e8.symm))
   · have := (owns_lt h.rT hq).1
     rw [World.size_alloc] at e9
     omega
 bel := by
  have h1 : wi.heap.size ≤ H := by have := h.big; omega
  have h2 : Below wi.heap.size w w9 := Below.grown ((Below.refl _ _).alloc (Nat.le_trans h.bel.size (Nat.le_refl _)) _) hgr (by have := h.bel.size; simp; omega) (fun q hq => by have := (owns_lt h.rM hq).2; omega)
  exact (h.bel.trans h2).setCell (by show wi.heap.size ≤ bl; have := h.big; omega) _
 big := by
  have h1 := hgr.size
  rw [World.size_alloc] at h1
  have h2 := h.big
  refine ⟨h2.1, h2.2.1, h2.2.2.1, ?_, h2.2.2.2.2⟩
  show H ≤ (w9.setCell _ _).heap.size
  simp [World.setCell]
  omega
end
end Go.Proofs.Ytkndmibmmoikbaa
