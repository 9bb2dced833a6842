/- Chapter 10: Pg2 Pg1 Pw0. -/
import Derived.Test.YtkndmibmmoikbaaD21
import Derived.StillTailTactics
set_option linter.all false
set_option maxRecDepth 100000
set_option maxHeartbeats 16000000
namespace Go.Proofs.Ytkndmibmmoikbaa
open Go.RowKit
open Cox (Tl)
variable {K : Type} [Cox.OR K] (W : Cox.Tri K)
theorem td_new {a b c : Int} {p F : Nat} {w : World} (hhead : w.heap[p]? = some (.cells #[.int .i64 a, .int .i64 b, .int .i64 c, .pointer (some ⟨F, 0, none⟩)] 93 (0, 0))) (hpF : p ≠ F) (hrep : PRep w (fun _ => F) (fun _ => 0) [Cox.first]) :
 TD W a b c p F w (dict (fun _ => F) [Cox.first]) := by
 refine ⟨_, _, _, ⟨hrep, ?_, ?_, hhead, ?_, ⟨Cox.first, rfl, rfl, rfl⟩⟩, rfl⟩
 · intro k nd hk
   have : k = 0 := by
    have := (List.getElem?_eq_some_iff.1 hk).1
    simpa using this
   subst this
   simp at hk
   subst hk
   refine ⟨rfl, fun v i h => ?_⟩
   have : ([] : List (Fin 3)) = v ++ [i] := h
   simp at this
 · have := Cox.G.first_ok W
   have e : (fun k => k = 0) = (fun k => k < [Cox.first].length) := by
    funext k
    apply propext
    simp
   rw [e] at this
   exact this
 · rintro ⟨k, _, he⟩
   exact hpF he.symm
theorem LSt.push {W : Cox.Tri K} {B : Nat} {a b c : Int} {L p F M : Nat} {w : World} {D : Dict} {ws : List (List (Fin 3))} {xs : List Nat} {rv wv pv : Value} (h : LSt W B a b c L p F M w D ws xs rv wv pv)
 {u : List (Fin 3)} {x : Nat} (hx : D u x) (hm : u ∉ ws) {o : Obj} {w1 : World} {g cap : Nat} (hown : w1.ownsRow B 69 1 (.slice (some ⟨g, 0, none⟩) (xs.length + 1) cap) (xs.length + 1) (xs.map pval ++ [pval x])) (hgr : (w.alloc o).grownBy w1 rv.ownBlock) (hat : rv.ownBlock = some g ∨ g = (w.alloc o).heap.size) :
 ∃ w3, (Instr.mapUpdate 77 (.map (some M)) (.pointer (some ⟨x, 0, none⟩)) (.int .i64 (xs.length : Nat))).run Try.prog (w1.setCell ⟨L, 1, none⟩ (.slice (some ⟨g, 0, none⟩) (xs.length + 1) cap)) = .ok () w3 ∧
  LSt W B a b c L p F M w3 D (ws ++ [u]) (xs ++ [x]) (.slice (some ⟨g, 0, none⟩) (xs.length + 1) cap) wv pv ∧ Below B w w3 := by
 have hal : ∀ q, q < w.heap.size → (w.alloc o).heap[q]? = w.heap[q]? := fun q hq => Below.heap_alloc _ _ _ hq
 have hLl := h.Llt
 have hMl := h.map.lt
 have hpl := h.plt
 have hout : Out (fun q => rv.ownBlock = some q) w w1 := by
  refine ⟨hgr.os, hgr.tape, hgr.output, ?_, fun q hq hn => ?_⟩
  · have := hgr.size; simp at this; omega
  · rw [hgr.block q (by simp; omega) (fun e => hn e.symm), hal q hq]
 have hgs : ¬ D.dom g ∧ g ≠ L ∧ g ≠ M ∧ g ≠ p := by
  rcases hat with e | e
  · exact h.sepR g e
  · rw [World.size_alloc] at e
    refine ⟨?_, by omega, by omega, by omega⟩
    rintro ⟨v, hv⟩
    have := h.td.lt hv; omega
 have ho2 : Out (fun q => q = L) w1 (w1.setCell ⟨L, 1, none⟩ (.slice (some ⟨g, 0, none⟩) (xs.length + 1) cap)) := ⟨rfl, rfl, rfl, by simp [World.setCell], fun q hq hn => by rw [heap_setCell', if_neg hn]⟩
 have t1 : TD W a b c p F w1 D := h.td.out hout (fun y hy e => (h.sepR y e).1 hy) (fun e => (h.sepR p e).2.2.2 rfl)
 have t2 := t1.out ho2 (fun y hy e => h.sepL.1 (e ▸ hy)) (fun e => h.sepL.2.2 e.symm)
 have m1 : w1.heap[M]? = w.heap[M]? := hout.block M hMl (fun e => (h.sepR M e).2.2.1 rfl)
 have m2 := h.map.keep ((ho2.block M (Nat.lt_of_lt_of_le hMl hout.size) (fun e => h.sepL.2.1 e.symm)).trans m1)
 have hL1 : w1.heap[L]? = w.heap[L]? := hout.block L hLl (fun e => (h.sepR L e).2.1 rfl)
 have hL2 : (w1.setCell ⟨L, 1, none⟩ (.slice (some ⟨g, 0, none⟩) (xs.length + 1) cap)).heap[L]? = some (.cells #[.pointer (some ⟨p, 0, none⟩), .slice (some ⟨g, 0, none⟩) (xs.length + 1) cap, .map (some M), wv, pv] 80 (0, 0)) := by
  rw [heap_setCell', if_pos rfl, hL1, h.head]; rfl
 have hkeys : ∀ kv ∈ (xs.zipIdx.map fun xi => (pval xi.1, Value.int .i64 (xi.2 : Nat))), Mp.PtrKey (w1.setCell ⟨L, 1, none⟩ (.slice (some ⟨g, 0, none⟩) (xs.length + 1) cap)) kv.1 := by
  intro kv hkv
  have : kv.1 ∈ xs.map pval := by rw [← zip_fst]; exact List.mem_map.2 ⟨kv, hkv, rfl⟩
  obtain ⟨y, hy, he⟩ := List.mem_map.1 this
  obtain ⟨v, _, hv⟩ := h.dom hy
  rw [← he]; exact t2.key hv
 have hxm : x ∉ xs := fun e => hm ((h.mem hx).1 e)
 obtain ⟨w3, h1, h2, h3, h4⟩ := m2.update_out (tile_kin _) (mt := 77) (et := 3) (by kernel_rfl) hkeys (k := pval x) (t2.key hx) (by rw [zip_fst]; intro e; obtain ⟨y, hy, he⟩ := List.mem_map.1 e; exact hxm (pval_inj he ▸ hy)) (.int .i64 (xs.length : Nat))
 have hgl := owns_lt hown (g := g) rfl
 refine ⟨w3, h1, ⟨?_, ?_, by simp [h.len], ?_, ?_, ?_, ?_, h.sepL, h.sepM, ?_, h.lo⟩, ?_⟩
 · exact t2.out h3 (fun y hy e => h.sepM.1 (e ▸ hy)) (fun e => h.sepM.2 e.symm)
 · rw [h3.block L (by simp [World.setCell]; have := hout.size; omega) h.sepL.2.1]; exact hL2
 · intro i hi hi'
   rw [List.length_append] at hi hi'
   rcases Nat.lt_or_ge i ws.length with hl | hl
   · have hl' : i < xs.length := by rw [h.len]; exact hl
     rw [List.getElem_append_left hl, List.getElem_append_left hl']
     exact h.at_ i hl hl'
   · have e1 : i = ws.length := by simp at hi; omega
     have e2 : i = xs.length := by rw [h.len]; exact e1
     rw [List.getElem_append_right (by omega), List.getElem_append_right (by omega)]
     simp only [e1, Nat.sub_self, List.getElem_cons_zero, ← h.len]
     exact hx
 · rw [List.nodup_append]
   exact ⟨h.nodup, by simp, fun v hv z hz => by simp at hz; subst hz; exact fun e => hm (e ▸ hv)⟩
 · rw [List.length_append, List.map_append]
   refine owns_keep hown fun q hq => ?_
   have hqg : q = g := by simpa [Value.ownBlock] using hq.symm
   subst hqg
   rw [h3.block q (by simp [World.setCell]; exact hgl.1) hgs.2.2.1, ho2.block q hgl.1 hgs.2.1]
 · rw [List.zipIdx_append, List.map_append]
   simpa using h2
 · intro q hq
   have : q = g := by simpa [Value.ownBlock] using hq.symm
   subst this
   exact hgs
 · have hlo := h.lo
   refine (hout.below (fun q hq => (owns_lt h.row hq).2) (by omega)).trans ((ho2.below (fun q hq => by omega) (by have := hout.size; omega)).trans (h3.below (fun q hq => by omega) (by simp [World.setCell]; have := hout.size; omega)))
theorem ls_start {a b c : Int} {B p F : Nat} {w : World} (hhead : w.heap[p]? = some (.cells #[.int .i64 a, .int .i64 b, .int .i64 c, .pointer (some ⟨F, 0, none⟩)] 93 (0, 0))) (hpF : p ≠ F) (hrep : PRep w (fun _ => F) (fun _ => 0) [Cox.first]) (hF : B ≤ F) (hp : B ≤ p) (wv : Value) :
 LSt W B a b c (w.heap.size + 1) p F w.heap.size ((w.alloc (.map #[] 0)).alloc (.cells #[.pointer (some ⟨p, 0, none⟩), .slice none 0 0, .map (some w.heap.size), wv, .slice none 0 0] 80)) (dict (fun _ => F) [Cox.first]) [] [] (.slice none 0 0) wv (.slice none 0 0) := by
 have td := td_new W hhead hpF hrep
 have hb : Below w.heap.size w ((w.alloc (.map #[] 0)).alloc (.cells #[.pointer (some ⟨p, 0, none⟩), .slice none 0 0, .map (some w.heap.size), wv, .slice none 0 0] 80)) := ((Below.refl _ _).alloc (Nat.le_refl _) _).alloc (by simp) _
 have hpl := (Array.getElem?_eq_some_iff.1 hhead).1
 have hFl := td.lt td.root
 have hdom : ∀ x, (dict (fun _ => F) [Cox.first]).dom x → x = F := by
  rintro x ⟨u, k, nd, _, _, he⟩
  exact he.symm
 refine ⟨td.below hb, str_new _ _ _ _ (by simp), rfl, fun i h => (by simp at h), by simp, ⟨rfl, .inl ⟨rfl, rfl⟩⟩, ?_, ⟨fun h => ?_, by omega, by omega⟩, ⟨fun h => ?_, by omega⟩, fun g hg => (by cases hg), by omega, by omega, hp, fun x hx => ?_⟩
 · exact (MapOf.new w).keep (Below.heap_alloc _ _ _ (by simp))
 · have := hdom _ h; omega
 · have := hdom _ h; omega
 · have := hdom _ hx; omega
noncomputable def tws (ts : List ByteArray) : List (List (Fin 3)) := ts.map fun s => Cox.nf W (unw s)
def Apart (ws : List (List (Fin 3))) : Prop := ws = [] ∨ ¬ ws.Nodup ∨ ¬ Conn W ws
noncomputable def nlErr (a b c : Int) (ts : List ByteArray) (ps : List PairD) : Int :=
 if form a b c ts ps ≠ 0 then form a b c ts ps else @ite _ (Apart W (tws W ts)) (Classical.propDecidable _) 7 (@ite _ (PairSeq W (tws W ts) [] (eds W ps)) (Classical.propDecidable _) 0 8)
theorem nlErr_form {a b c : Int} {ts : List ByteArray} {ps : List PairD} (h : form a b c ts ps ≠ 0) : nlErr W a b c ts ps = form a b c ts ps := by unfold nlErr; rw [if_pos h]
theorem nlErr_apart {a b c : Int} {ts : List ByteArray} {ps : List PairD} (h : form a b c ts ps = 0) (h2 : Apart W (tws W ts)) : nlErr W a b c ts ps = 7 := by unfold nlErr; rw [if_neg (by simp [h]), if_pos h2]
theorem nlErr_pair {a b c : Int} {ts : List ByteArray} {ps : List PairD} (h : form a b c ts ps = 0) (h2 : ¬ Apart W (tws W ts)) (h3 : ¬ PairSeq W (tws W ts) [] (eds W ps)) : nlErr W a b c ts ps = 8 := by unfold nlErr; rw [if_neg (by simp [h]), if_neg h2, if_neg h3]
theorem nlErr_ok {a b c : Int} {ts : List ByteArray} {ps : List PairD} (h : form a b c ts ps = 0) (h2 : ¬ Apart W (tws W ts)) (h3 : PairSeq W (tws W ts) [] (eds W ps)) : nlErr W a b c ts ps = 0 := by unfold nlErr; rw [if_neg (by simp [h]), if_neg h2, if_pos h3]
theorem cws_zero {l : List ByteArray} (h : cws l = 0) : ∀ s, s ∈ l → cw s = 0 := by
 induction l with
 | nil => intro s hs; cases hs
 | cons a l ih =>
  intro s hs
  unfold cws at h
  by_cases h0 : cw a = 0
  · rw [if_pos h0] at h
    rcases List.mem_cons.1 hs with rfl | hs
    · exact h0
    · exact ih h s hs
  · rw [if_neg h0] at h; exact (h0 h).elim
theorem cpairs_zero {l : List PairD} (h : cpairs l = 0) : ∀ s, s ∈ l → cpair s = 0 := by
 induction l with
 | nil => intro s hs; cases hs
 | cons a l ih =>
  intro s hs
  unfold cpairs at h
  by_cases h0 : cpair a = 0
  · rw [if_neg (by simp [h0])] at h
    rcases List.mem_cons.1 hs with rfl | hs
    · exact h0
    · exact ih h s hs
  · rw [if_pos h0] at h; exact (h0 h).elim
theorem form_good {a b c : Int} {ts : List ByteArray} {ps : List PairD} (h : form a b c ts ps = 0) : chk a b c = 0 ∧ ts.length ≤ 200 ∧ ps.length ≤ 600 ∧ (∀ s, s ∈ ts → cw s = 0) ∧ ∀ q, q ∈ ps → cpair q = 0 := by
 unfold form at h
 by_cases h1 : chk a b c = 0
 · rw [if_neg (by simp [h1])] at h
   by_cases h2 : 200 < ts.length ∨ 600 < ps.length
   · rw [if_pos h2] at h; cases h
   · rw [if_neg h2] at h
     by_cases h3 : cws ts = 0
     · rw [if_neg (by simp [h3])] at h
       exact ⟨h1, by omega, by omega, cws_zero h3, cpairs_zero h⟩
     · rw [if_pos h3] at h; exact (h3 h).elim
 · rw [if_pos h1] at h; exact (h1 h).elim
theorem tws_len {ts : List ByteArray} (h : ∀ s, s ∈ ts → cw s = 0) : ∀ u, u ∈ tws W ts → u.length ≤ 60 := by
 intro u hu
 obtain ⟨s, hs, rfl⟩ := List.mem_map.1 hu
 have := (cw_unw (h s hs)).2
 have := Cox.nf_le W (unw s)
 omega
def NLPost (a b c : Int) (ts : List ByteArray) (ps : List PairD) (wv : Value) (w : World) (e : Ending) (w' : World) : Prop :=
 (nlErr W a b c ts ps ≠ 0 ∧ e = .panicked (refusal (nlErr W a b c ts ps)) ∧ Below w.heap.size w w') ∨
 (nlErr W a b c ts ps = 0 ∧ ∃ L p F M D xs rv pv H A, e = .returned (.pointer (some ⟨L, 0, none⟩)) ∧ LSt W w.heap.size a b c L p F M w' D (tws W ts) xs rv wv pv ∧ w'.ownsRow H 114 4 pv (eds W ps).length (prow A (eds W ps)) ∧ (∀ u, u ∈ tws W ts → D u (A u)) ∧ (∀ g, pv.ownBlock = some g → ¬ D.dom g ∧ w.heap.size ≤ g) ∧ Below w.heap.size w w')
end Go.Proofs.Ytkndmibmmoikbaa
namespace Go.Proofs.Ytkndmibmmoikbaa
open Go.RowKit
open Cox (Tl)
theorem newlist_any {K : Type} [Cox.OR K] (W : Cox.Tri K) (a b c : Int) (hord : chk a b c = 0 → Ords W a b c) (ts : List ByteArray) (ps : List PairD) (pt pp : Option Addr) (ct cp : Nat) (w : World) (hts : StrsAt w pt ts) (hps : PairsAt w pp ps) (hlt : ts.length ≤ maxLen) (hlp : ps.length ≤ maxLen)
 (hs : ∀ s, s ∈ ts → s.size ≤ maxLen) (hs2 : ∀ p, p ∈ ps → p.1.tile.size ≤ maxLen ∧ p.2.tile.size ≤ maxLen) :
 Calls Try.prog 22 #[oval a b c, .slice pt ts.length ct, .slice pp ps.length cp] w (NLPost W a b c ts ps (.slice pp ps.length cp) w) := by
 obtain ⟨Q, hQ⟩ : ∃ Q, Q = NLPost W a b c ts ps (.slice pp ps.length cp) w := ⟨_, rfl⟩
 rw [← hQ]
 have HQ := Lib.hid hQ
 have HORD := Lib.hid hord
 have hbad : ∀ w', form a b c ts ps ≠ 0 → Below w.heap.size w w' → Q (.panicked (refusal (form a b c ts ps))) w' := fun w' hf hb => by
  rw [hQ]
  exact .inl ⟨by rw [nlErr_form W hf]; exact hf, by rw [nlErr_form W hf], hb⟩
 clear hQ hord
 unfold maxLen at hlt hlp
 have IA := Hi (fun w => isallowed_any a b c w)
 have HTS := Lib.hid hts
 have HPS := Lib.hid hps
 have HS := Lib.hid hs
 have HS2 := Lib.hid hs2
 have HBAD := Lib.hid hbad
 clear hts hps hs hs2 hbad
 unfold oval at *
 by_cases hc : chk a b c = 0
 case neg =>
  have HF : Hid (form a b c ts ps = chk a b c) := Hi (by unfold form; rw [if_pos hc])
  have HB : Hid (∀ w', Below w.heap.size w w' → Q (.panicked (refusal (chk a b c))) w') := Hi (fun w' hb => by rw [← HF.out]; exact HBAD.out w' (by rw [HF.out]; exact hc) hb)
  have MN := Hi (fun w => must_no (chk a b c) hc w)
  generalize chk a b c = e0 at *
  clear hc
  go_enter Try.func22, Try.ntmps22
  go_wp2_with (first | (go_at_call 27; refine (IA.out _).mono ?_; rintro e w2 ⟨rfl, hb2⟩; have HB2 := Lib.hid hb2; clear hb2) | (go_at_call 26; refine (MN.out _).mono ?_; rintro e w2 ⟨rfl, rfl⟩))
  exact ⟨rfl, HB.out _ (((Below.refl _ _).alloc (Nat.le_refl _) _).trans (HB2.out.mono (by simp)))⟩
 case pos =>
  rw [hc] at IA
  have MY := Hi (fun w => must_yes w)
  by_cases hbig : 200 < ts.length ∨ 600 < ps.length
  · have HB : Hid (∀ w', Below w.heap.size w w' → Q (.panicked (refusal 4)) w') := Hi (fun w' hb => by
     have hf : form a b c ts ps = 4 := by unfold form; rw [if_neg (by simp [hc]), if_pos hbig]
     rw [← hf]; exact HBAD.out w' (by rw [hf]; decide) hb)
    have NN := Hi (fun w => need_no 4 w)
    by_cases h1 : 200 < ts.length
    · have i1 : ¬ (ts.length : Int) ≤ 200 := by omega
      have d1 : decide ((ts.length : Int) ≤ 200) = false := by simpa using i1
      clear hbig h1
      go_enter Try.func22, Try.ntmps22
      go_wp2_with (first | (go_at_call 27; refine (IA.out _).mono ?_; rintro e w2 ⟨rfl, hb2⟩; have HB2 := Lib.hid hb2; clear hb2) | (go_at_call 26; refine (MY.out _).mono ?_; rintro e w2 ⟨rfl, rfl⟩) | (go_at_call 24; refine (NN.out _).mono ?_; rintro e w2 ⟨rfl, rfl⟩))
      exact ⟨rfl, HB.out _ (((Below.refl _ _).alloc (Nat.le_refl _) _).trans (HB2.out.mono (by simp)))⟩
    · have i1 : (ts.length : Int) ≤ 200 := by omega
      have i2 : ¬ (ps.length : Int) ≤ 600 := by omega
      have d1 : decide ((ps.length : Int) ≤ 600) = false := by simpa using i2
      clear hbig h1
      go_enter Try.func22, Try.ntmps22
      go_wp2_with (first | (go_at_call 27; refine (IA.out _).mono ?_; rintro e w2 ⟨rfl, hb2⟩; have HB2 := Lib.hid hb2; clear hb2) | (go_at_call 26; refine (MY.out _).mono ?_; rintro e w2 ⟨rfl, rfl⟩) | (go_at_call 24; refine (NN.out _).mono ?_; rintro e w2 ⟨rfl, rfl⟩))
      exact ⟨rfl, HB.out _ (((Below.refl _ _).alloc (Nat.le_refl _) _).trans (HB2.out.mono (by simp)))⟩
  · have i1 : (ts.length : Int) ≤ 200 := by omega
    have i2 : (ps.length : Int) ≤ 600 := by omega
    have d1 : decide ((ps.length : Int) ≤ 600) = true := by simpa using i2
    have HFO : Hid (form a b c ts ps = if cws ts ≠ 0 then cws ts else cpairs ps) := Hi (by unfold form; rw [if_neg (by simp [hc]), if_neg hbig])
    have NY := Hi (fun e w => need_yes e w)
    have IW := Hi (fun s hs w => isword_any s hs w)
    have MN := Hi (fun e h w => must_no e h w)
    clear hbig
    go_enter Try.func22, Try.ntmps22
    go_wp2_with (first | (go_at_call 27; refine (IA.out _).mono ?_; rintro e w2 ⟨rfl, hb2⟩; have HB2 := Lib.hid hb2; clear hb2) | (go_at_call 26; refine (MY.out _).mono ?_; rintro e w2 ⟨rfl, rfl⟩) | (go_at_call 24; refine (NY.out _ _).mono ?_; rintro e w2 ⟨rfl, rfl⟩))
    have HB3 : Hid (Below w.heap.size w w2 ∧ AtO a b c w.heap.size w2) := Hi (by
     exact ⟨((Below.refl _ _).alloc (Nat.le_refl _) _).trans (HB2.out.mono (by simp)), (AtO.newT a b c w 23).below HB2.out⟩)
    clear HB2
    go_loopw [31] (fun t wr => ∃ k : Nat, k ≤ ts.length ∧ t = .int .i64 k ∧ Hid ((∀ i (h : i < ts.length), i < k → cw ts[i] = 0) ∧ Below w.heap.size w wr ∧ AtO a b c w.heap.size wr)) (fun t _ => ts.length - (intOf t).toNat)
    case atStart => exact ⟨0, by omega, rfl, Lib.hid ⟨fun i h h2 => by omega, HB3.out.1, HB3.out.2⟩⟩
    case round =>
     obtain ⟨k, hk, rfl, HK⟩ := hrel
     by_cases hlt : k < ts.length
     · obtain ⟨bt, ot, rfl, hr⟩ := (HTS.out.below HK.out.2.1) (by intro h; rw [h] at hlt; simp at hlt)
       have c0 := hr k hlt
       have k1 : (k : Int) < (ts.length : Int) := by omega
       have k2 : (0 : Int) ≤ (k : Int) := by omega
       have IWk := Hi (fun w => IW.out ts[k] (HS.out _ (List.getElem_mem hlt)) w)
       have hcase : cw ts[k] = 0 ∨ cw ts[k] ≠ 0 := by omega
       have HC := Hi (And.intro (fun (h : cw ts[k] = 0) => (fun i (hi : i < ts.length) (h2 : i < k + 1) => (by
        by_cases e : i = k
        · subst e; exact h
        · exact HK.out.1 i hi (by omega) : cw ts[i] = 0))) (fun (h : cw ts[k] ≠ 0) => cws_first hlt HK.out.1 h))
       clear hr
       generalize ts[k] = sk at *
       rcases hcase with h | h
       · rw [h] at IWk
         have HC1 := Hi (HC.out.1 h)
         clear h HC
         go_wp2_with (first | (go_at_call 28; refine (IWk.out _).mono ?_; rintro e w4 ⟨rfl, hb4⟩; have HB4 := Lib.hid hb4; clear hb4) | (go_at_call 26; refine (MY.out _).mono ?_; rintro e w5 ⟨rfl, rfl⟩))
         go_roundw
         case rel => exact ⟨k + 1, by omega, by go_num, Lib.hid ⟨HC1.out, HK.out.2.1.trans (HB4.out.mono HK.out.2.1.size), HK.out.2.2.below HB4.out⟩⟩
         case measure => simp [intOf]; omega
       · have HE : Hid (∀ w', Below w.heap.size w w' → Q (.panicked (refusal (cw sk))) w') := Hi (fun w' hb => by
          have h1 := HC.out.2 h
          have h2 : form a b c ts ps = cw sk := by rw [HFO.out, h1, if_pos h]
          rw [← h2]
          exact HBAD.out w' (by rw [h2]; exact h) hb)
         have MN2 := Hi (fun w => MN.out (cw sk) h w)
         clear h HC
         generalize cw sk = ce at *
         go_wp2_with (first | (go_at_call 28; refine (IWk.out _).mono ?_; rintro e w4 ⟨rfl, hb4⟩; have HB4 := Lib.hid hb4; clear hb4) | (go_at_call 26; refine (MN2.out _).mono ?_; rintro e w5 ⟨rfl, rfl⟩))
         exact ⟨rfl, HE.out _ (HK.out.2.1.trans (HB4.out.mono HK.out.2.1.size))⟩
     · have hkl : k = ts.length := by omega
       subst hkl
       have HW : Hid (cws ts = 0) := Hi (cws_good fun i hi => HK.out.1 i hi hi)
       have k1 : ¬ (ts.length : Int) < (ts.length : Int) := by omega
       have HFO2 : Hid (form a b c ts ps = cpairs ps) := Hi (by rw [HFO.out, HW.out]; simp)
       clear HFO
       go_wp2_with fail
       go_loopw [41] (fun t wr => ∃ k : Nat, k ≤ ps.length ∧ t = .int .i64 k ∧ Hid ((∀ i (h : i < ps.length), i < k → cpair ps[i] = 0) ∧ Below w.heap.size w wr ∧ AtO a b c w.heap.size wr)) (fun t _ => ps.length - (intOf t).toNat)
       case atStart => exact ⟨0, by omega, rfl, Lib.hid ⟨fun i h h2 => by omega, HK.out.2.1, HK.out.2.2⟩⟩
       case round =>
        obtain ⟨k, hk, rfl, HP⟩ := hrel
        by_cases hlt : k < ps.length
        · obtain ⟨bt, ot, rfl, hr⟩ := (HPS.out.below HP.out.2.1) (by intro h; rw [h] at hlt; simp at hlt)
          obtain ⟨c0, c1, c2, c3⟩ := hr k hlt
          have k1 : (k : Int) < (ps.length : Int) := by omega
          have k2 : (0 : Int) ≤ (k : Int) := by omega
          clear hr
          have HSZ := Hi (HS2.out _ (List.getElem_mem hlt))
          have HKK := Hi (And.intro (fun (h : cpair ps[k] = 0) => (fun i (hi : i < ps.length) (h2 : i < k + 1) => (by
           by_cases e : i = k
           · subst e; exact h
           · exact HP.out.1 i hi (by omega) : cpair ps[i] = 0))) (fun (h : cpair ps[k] ≠ 0) => cpairs_first hlt HP.out.1 h))
          generalize ps[k] = pk at *
          have HIX := Hi (idx41 pk)
          go_wp2_with fail
          go_loopw [46] (fun t wq => ∃ j : Nat, j ≤ 2 ∧ t = .int .i64 j ∧ Hid ((∀ i, i < j → cedge (edgeAt pk i) = 0) ∧ Below w.heap.size w wq ∧ AtO a b c w.heap.size wq)) (fun t _ => 2 - (intOf t).toNat)
          case atStart => exact ⟨0, by omega, rfl, Lib.hid ⟨fun i h => by omega, HP.out.2.1.trans ((Below.refl _ _).alloc HP.out.2.1.size _), HP.out.2.2.below ((Below.refl _ _).alloc (Nat.le_refl _) _)⟩⟩
          case round =>
           obtain ⟨j, hj, rfl, HJ⟩ := hrel
           by_cases hlj : j < 2
           · have hix := HIX.out j hlj
             have hsz : (edgeAt pk j).tile.size ≤ maxLen := by
              unfold edgeAt; split
              · exact HSZ.out.1
              · exact HSZ.out.2
             have IWk := Hi (fun w => IW.out (edgeAt pk j).tile hsz w)
             have IL := Hi (fun w => isletter_any (edgeAt pk j).mir w)
             have HE := Hi (And.intro (fun (h : cedge (edgeAt pk j) = 0) => (fun i (h2 : i < j + 1) => (by
              by_cases e : i = j
              · subst e; exact h
              · exact HJ.out.1 i (by omega) : cedge (edgeAt pk i) = 0))) (fun (h : cedge (edgeAt pk j) ≠ 0) => (by
                have hj2 : j = 0 ∨ j = 1 := by omega
                have h0 : cpair pk = cedge (edgeAt pk j) := by
                 rcases hj2 with rfl | rfl
                 · unfold cpair; exact if_pos h
                 · have h1 := HJ.out.1 0 (by omega)
                   unfold cpair
                   rw [if_neg (by show ¬ cedge (edgeAt pk 0) ≠ 0; rw [h1]; simp)]; rfl
                have h2 := HKK.out.2 (by rw [h0]; exact h)
                intro w' hb
                have h3 : form a b c ts ps = cedge (edgeAt pk j) := by rw [HFO2.out, h2, h0]
                rw [← h3]
                exact HBAD.out w' (by rw [h3]; exact h) hb : ∀ w', Below w.heap.size w w' → Q (.panicked (refusal (cedge (edgeAt pk j)))) w')))
             clear hsz
             generalize edgeAt pk j = ej at *
             have hcase : cw ej.tile ≠ 0 ∨ (cw ej.tile = 0 ∧ isMir ej.mir) ∨ (cw ej.tile = 0 ∧ ¬ isMir ej.mir) := by
              by_cases h1 : cw ej.tile = 0
              · by_cases h2 : isMir ej.mir
                · exact .inr (.inl ⟨h1, h2⟩)
                · exact .inr (.inr ⟨h1, h2⟩)
              · exact .inl h1
             rcases hcase with h | ⟨h, hmir⟩ | ⟨h, hmir⟩
             · have hce : cedge ej = cw ej.tile := by unfold cedge; rw [if_pos h]
               have HE2 := Hi (HE.out.2 (by rw [hce]; exact h))
               rw [hce] at HE2
               have MN2 := Hi (fun w => MN.out (cw ej.tile) h w)
               clear h hce HE
               generalize cw ej.tile = ce at *
               go_wp2_with (first | (go_at_call 28; refine (IWk.out _).mono ?_; rintro e w4 ⟨rfl, hb4⟩; have HB4 := Lib.hid hb4; clear hb4) | (go_at_call 26; refine (MN2.out _).mono ?_; rintro e w5 ⟨rfl, rfl⟩))
               exact ⟨rfl, HE2.out _ (HJ.out.2.1.trans (((Below.refl _ _).alloc HJ.out.2.1.size _).trans (HB4.out.mono (by have := HJ.out.2.1.size; simp; omega))))⟩
             · have hce : cedge ej = 0 := by unfold cedge; rw [if_neg (by simp [h]), if_pos hmir]
               have HE2 := Hi (HE.out.1 hce)
               rw [h] at IWk
               unfold isMir at hmir
               rw [decide_eq_true hmir] at IL
               clear h hce HE hmir
               go_wp2_with (first | (go_at_call 28; refine (IWk.out _).mono ?_; rintro e w4 ⟨rfl, hb4⟩; have HB4 := Lib.hid hb4; have hmc := hb4.cell (p := ⟨wr.heap.size, 1, none⟩) (by simp); simp at hmc; clear hb4) | (go_at_call 26; refine (MY.out _).mono ?_; rintro e w5 ⟨rfl, rfl⟩) | (go_at_call 30; refine (IL.out _).mono ?_; rintro e w6 ⟨rfl, rfl⟩) | (go_at_call 24; refine (NY.out _ _).mono ?_; rintro e w5 ⟨rfl, rfl⟩))
               refine ⟨⟨j + 1, by omega, by go_num, Lib.hid ⟨HE2.out, HJ.out.2.1.trans (((Below.refl _ _).alloc HJ.out.2.1.size _).trans (HB4.out.mono (by have := HJ.out.2.1.size; simp; omega))), (HJ.out.2.2.below ((Below.refl _ _).alloc (Nat.le_refl _) _)).below HB4.out⟩⟩, ?_⟩
               simp [intOf]; omega
             · have hce : cedge ej = 1 := by unfold cedge; rw [if_neg (by simp [h]), if_neg hmir]
               have HE2 := Hi (HE.out.2 (by rw [hce]; decide))
               rw [hce] at HE2
               rw [h] at IWk
               unfold isMir at hmir
               rw [decide_eq_false hmir] at IL
               have NN := Hi (fun w => need_no 1 w)
               clear h hce HE hmir
               go_wp2_with (first | (go_at_call 28; refine (IWk.out _).mono ?_; rintro e w4 ⟨rfl, hb4⟩; have HB4 := Lib.hid hb4; have hmc := hb4.cell (p := ⟨wr.heap.size, 1, none⟩) (by simp); simp at hmc; clear hb4) | (go_at_call 26; refine (MY.out _).mono ?_; rintro e w5 ⟨rfl, rfl⟩) | (go_at_call 30; refine (IL.out _).mono ?_; rintro e w6 ⟨rfl, rfl⟩) | (go_at_call 24; refine (NN.out _).mono ?_; rintro e w5 ⟨rfl, rfl⟩))
               exact ⟨rfl, HE2.out _ (HJ.out.2.1.trans (((Below.refl _ _).alloc HJ.out.2.1.size _).trans (HB4.out.mono (by have := HJ.out.2.1.size; simp; omega))))⟩
           · have hj2 : j = 2 := by omega
             subst hj2
             have hcp : cpair pk = 0 := by
              have h0 := HJ.out.1 0 (by omega)
              have h1 := HJ.out.1 1 (by omega)
              have h0' : cedge pk.1 = 0 := h0
              have h1' : cedge pk.2 = 0 := h1
              unfold cpair; rw [if_neg (by rw [h0']; simp)]; exact h1'
             have HKN := Hi (HKK.out.1 hcp)
             clear hcp
             go_wp2_with fail
             go_roundw
             case rel => exact ⟨k + 1, by omega, by go_num, Lib.hid ⟨HKN.out, HJ.out.2.1, HJ.out.2.2⟩⟩
             case measure => simp [intOf]; omega
        · have hkp : k = ps.length := by omega
          subst hkp
          have HGD : Hid (form a b c ts ps = 0) := Hi (by rw [HFO2.out]; exact cpairs_good fun i hi => HP.out.1 i hi hi)
          have k1 : ¬ (ps.length : Int) < (ps.length : Int) := by omega
          have d0 := HP.out.2.2.1
          have d1' := HP.out.2.2.2.1
          have d2 := HP.out.2.2.2.2.1
          have NT := Hi (fun w => newtiling_any a b c w)
          have HCH := Lib.hid hc
          have HFB := Hi (And.intro HGD.out (And.intro HP.out.2.1 HP.out.2.2.2.2.2))
          clear IA MY NY IW MN HBAD HFO2 k1 HS HS2 HP
          unfold oval at NT
          have hmm := @run_makeMap Try.prog
          by_cases hne : ts = []
          · have NN := Hi (fun w => need_no 7 w)
            have hl0 : ts.length = 0 := by rw [hne]; rfl
            have HAP : Hid (nlErr W a b c ts ps = 7) := Hi (nlErr_apart W HGD.out (.inl (by rw [hne]; rfl)))
            have d0' : decide (0 < ts.length) = false := decide_eq_false (by omega)
            clear hne hl0
            go_wp2_with (first
             | (go_at_call 29; refine (NT.out _).mono ?_; rintro e w6 ⟨p, F, rfl, hhead, hpF, hFw, hpw, hrep, hbl⟩; have HN := Hi (And.intro hhead (And.intro hpF (And.intro hFw (And.intro hpw (And.intro hrep hbl))))); clear hhead hpF hFw hpw hrep hbl)
             | (go_at_call 24; refine (NN.out _).mono ?_; rintro e w8 ⟨rfl, rfl⟩))
            refine ⟨rfl, ?_⟩
            rw [HQ.out]
            refine .inl ⟨by rw [HAP.out]; decide, by rw [HAP.out], HFB.out.2.1.trans ((HN.out.2.2.2.2.2.mono HFB.out.2.1.size).trans (((Below.refl _ _).alloc ?_ _).alloc ?_ _))⟩
            · have h1 := HFB.out.2.1.size
              have h2 := HN.out.2.2.2.2.2.size
              omega
            · have h1 := HFB.out.2.1.size
              have h2 := HN.out.2.2.2.2.2.size
              simp; omega
          · have NY := Hi (fun w => need_yes 7 w)
            have HNE := Lib.hid hne
            have d0' : decide (0 < ts.length) = true := decide_eq_true (List.length_pos_iff.2 hne)
            clear hne
            go_wp2_with (first
             | (go_at_call 29; refine (NT.out _).mono ?_; rintro e w6 ⟨p, F, rfl, hhead, hpF, hFw, hpw, hrep, hbl⟩; have HLS := Hi (And.intro (ls_start W hhead hpF hrep (Nat.le_trans HFB.out.2.1.size hFw) (Nat.le_trans HFB.out.2.1.size hpw) (.slice pp ps.length cp)) (And.intro hbl (Nat.le_trans HFB.out.2.1.size hbl.size))); clear hhead hpF hFw hpw hrep hbl)
             | (go_at_call 24; refine (NY.out _).mono ?_; rintro e w8 ⟨rfl, rfl⟩))
            clear d0'
            generalize hW8 : World.alloc (World.alloc w6 _) _ = w8 at *
            have HB8 : Hid (Below w.heap.size w w8) := Hi (by
             rw [← hW8]
             exact HFB.out.2.1.trans ((HLS.out.2.1.mono HFB.out.2.1.size).trans (((Below.refl _ _).alloc HLS.out.2.2 _).alloc (by have := HLS.out.2.2; simp; omega) _))
             )
            clear hW8
            generalize hMM : w6.heap.size = M at *
            generalize hLL : M + 1 = L at *
            have HL0 := Lib.hid HLS.out.1
            clear HLS hMM hLL
            go_loopw [71] (fun t wr => ∃ (k : Nat) (D : Dict) (xs : List Nat) (rv : Value), k ≤ ts.length ∧ t = .int .i64 k ∧ Hid (LSt W w.heap.size a b c L p F M wr D ((tws W ts).take k) xs rv (.slice pp ps.length cp) (.slice none 0 0) ∧ Below w.heap.size w wr)) (fun t _ => ts.length - (intOf t).toNat)
            case atStart => exact ⟨0, _, [], .slice none 0 0, by omega, rfl, Lib.hid ⟨HL0.out, HB8.out⟩⟩
            case round =>
             obtain ⟨k, D, xs, rv, hk, rfl, HK⟩ := hrel
             have hxk : xs.length = k := by rw [HK.out.1.len, List.length_take]; unfold tws; simp; omega
             subst hxk
             by_cases hlt : xs.length < ts.length
             · obtain ⟨bt, ot, rfl, hr⟩ := (HTS.out.below HK.out.2) (by intro h; rw [h] at hlt; simp at hlt)
               have c0 := hr xs.length hlt
               have hgd := form_good HFB.out.1
               have hcw := hgd.2.2.2.1 _ (List.getElem_mem hlt)
               have hgt : (tws W ts)[xs.length]? = some (Cox.nf W (unw ts[xs.length])) := by unfold tws; rw [List.getElem?_map, List.getElem?_eq_getElem hlt]; rfl
               rw [(cw_unw hcw).1] at c0
               have hul := (cw_unw hcw).2
               obtain ⟨l, hl⟩ : ∃ l, unw ts[xs.length] = l := ⟨_, rfl⟩
               rw [hl] at c0 hul hgt
               have HGT := Lib.hid hgt
               have ORD := HORD.out HCH.out
               have HX200 := Hi (show xs.length < 200 by have := hgd.2.1; omega)
               clear hr hcw hgd hl hgt
               have k1 : (xs.length : Int) < (ts.length : Int) := by omega
               have k2 : (0 : Int) ≤ (xs.length : Int) := by omega
               have cL := HK.out.1.cell0
               have cp3 := HK.out.1.td.cell3
               have HTD : Hid (LSt W w.heap.size a b c L p F M wr.drew D ((tws W ts).take xs.length) xs rv (.slice pp ps.length cp) (.slice none 0 0) ∧ Below w.heap.size w wr.drew) := Lib.hid ⟨HK.out.1.below (Below.drew (Below.refl _ _)), HK.out.2.trans ((Below.drew (Below.refl _ _)))⟩
               have LD := Hi (lead_any W ORD HTD.out.1.td HTD.out.1.td.root l (by simp; omega))
               have HEQ : Hid (Cox.nf W ([] ++ l) = Cox.nf W l) := Hi (by simp)
               obtain ⟨u, hu⟩ : ∃ u, Cox.nf W l = u := ⟨_, rfl⟩
               have HU := Lib.hid hu
               clear hu ORD hul
               by_cases hm : u ∈ (tws W ts).take xs.length
               · have HAP : Hid (nlErr W a b c ts ps = 7) := Hi (nlErr_apart W HGD.out (.inr (.inl (fun hnd => by
                  have h1 := HGT.out
                  rw [HU.out] at h1
                  obtain ⟨h2, h3⟩ := List.getElem?_eq_some_iff.1 h1
                  obtain ⟨i, hi, h4⟩ := List.getElem_of_mem hm
                  rw [List.length_take] at hi
                  rw [List.getElem_take] at h4
                  have h5 := List.nodup_iff_pairwise_ne.1 hnd
                  rw [List.pairwise_iff_getElem] at h5
                  exact h5 i xs.length (by omega) h2 (by omega) (h4.trans h3.symm)))))
                 have HM := Lib.hid hm
                 have NN := Hi (fun w => need_no 7 w)
                 clear hm
                 go_wp2_with fail
                 go_still_tail 12, (by kernel_rfl)
                 go_wp2_with (first
                  | (go_at_call 33; refine LD.out.mono ?_; rintro e w3 ⟨D2, x, rfl, hd2, td2, tx2⟩; rw [HEQ.out, HU.out] at hd2; have HA := has_any (HTD.out.1.ext tx2 td2) hd2; rw [decide_eq_true HM.out] at HA; have HA := Lib.hid HA; have H3 := Hi (And.intro hd2 (And.intro td2 tx2)); clear hd2 td2 tx2)
                  | (go_at_call 36; refine HA.out.mono ?_; rintro e w4 ⟨rfl, rfl⟩)
                  | (go_at_call 24; refine (NN.out _).mono ?_; rintro e w5 ⟨rfl, rfl⟩))
                 refine ⟨rfl, ?_⟩
                 rw [HQ.out]
                 exact .inl ⟨by rw [HAP.out]; decide, by rw [HAP.out], HTD.out.2.trans (H3.out.2.2.out.below (fun q hq => HTD.out.1.lo.2.2.2 q hq) HTD.out.2.size)⟩
               · have HM := Lib.hid hm
                 obtain ⟨i69, hi69, hz0, hz1, hz2⟩ := info_parts info69
                 have m1 : xs.length + 1 ≤ maxLen := by unfold maxLen; omega
                 have m2 : (xs.length + 1) * 8 ≤ 140737488355328 := by omega
                 clear hm
                 go_wp2_with fail
                 go_still_tail 12, (by kernel_rfl)
                 go_wp2_with (first
                  | (go_at_call 33; refine LD.out.mono ?_; rintro e w3 ⟨D2, x, rfl, hd2, td2, tx2⟩; rw [HEQ.out, HU.out] at hd2; have HA := has_any (HTD.out.1.ext tx2 td2) hd2; rw [decide_eq_false HM.out] at HA; have HA := Lib.hid HA; have H3 := Hi (And.intro hd2 (And.intro (HTD.out.1.ext tx2 td2) (HTD.out.2.trans (tx2.out.below (fun q hq => HTD.out.1.lo.2.2.2 q hq) HTD.out.2.size)))); have cL1 : w3.cell? ⟨L, 1, none⟩ = some rv := (by rw [cell_of H3.out.2.1.head]; rfl); have HOW := Hi (owns_keep (w' := w3.alloc (.cells #[.pointer (some ⟨x, 0, none⟩)] 69)) H3.out.2.1.row (fun q hq => Below.heap_alloc _ _ _ (owns_lt H3.out.2.1.row hq).1)); have HHS := Hi (show w.heap.size ≤ (w3.alloc (.cells #[.pointer (some ⟨x, 0, none⟩)] 69)).heap.size by have h1 := H3.out.2.2.size; simp; omega); clear hd2 td2 tx2)
                  | (go_at_call 36; refine HA.out.mono ?_; rintro e w4 ⟨rfl, h4⟩; obtain rfl := h4.symm)
                  | (go_at_call 24; refine (NY.out _).mono ?_; rintro e w5 ⟨rfl, rfl⟩)
                  | (at_builtin; refine wpList_append_lies _ rfl (.tmp 98) (.tmp 100) 67 rfl w.heap.size 69 i69 _ 1 8 Try.underlying67 hi69 hz0 hz1 hz2 rfl (by decide) rv xs.length (xs.map pval) rfl HOW.out ⟨w3.heap.size, 0, none⟩ 1 1 [pval x] rfl rfl (World.news_of_block (str_new _ _ _ _ rfl)) (by intro u hu; simp at hu; subst hu; rfl) (by decide) m1 m2 HHS.out _ rfl ?_; intro g9 cap9 w9 hown9 hgr9 hat9 hlt9; have hh9 : w9.heap[L]? = w3.heap[L]? := (by rw [hgr9.block L (by have := H3.out.2.1.Llt; simp; omega) (fun e => (H3.out.2.1.sepR L e.symm).2.1 rfl)]; exact Below.heap_alloc _ _ _ H3.out.2.1.Llt); have z1 : w9.cell? ⟨L, 1, none⟩ = some rv := (by rw [cell_of (hh9.trans H3.out.2.1.head)]; rfl); have z2 := free_of (hh9.trans H3.out.2.1.head) 1; have z3 : w9.cell? ⟨L, 2, none⟩ = some (.map (some M)) := (by rw [cell_of (hh9.trans H3.out.2.1.head)]; rfl); obtain ⟨w10, hup, hls, hbl⟩ := H3.out.2.1.push H3.out.1 HM.out hown9 hgr9 hat9; have H10 := Hi (And.intro hls hbl); clear hown9 hgr9 hat9 hlt9 hls hbl hh9))
                 refine ⟨⟨xs.length + 1, D2, xs ++ [x], .slice (some ⟨g9, 0, none⟩) (xs.length + 1) cap9, by omega, by go_num, Lib.hid ⟨?_, H3.out.2.2.trans H10.out.2⟩⟩, ?_⟩
                 · have := H10.out.1
                   rw [show (tws W ts).take xs.length ++ [u] = (tws W ts).take (xs.length + 1) by
                    obtain ⟨h1, h2⟩ := List.getElem?_eq_some_iff.1 HGT.out
                    rw [List.take_succ_eq_append_getElem h1, h2, HU.out]] at this
                   exact this
                 · simp [intOf]; omega
             · have hkt : xs.length = ts.length := by omega
               have k1 : ¬ (xs.length : Int) < (ts.length : Int) := by omega
               have hgd := form_good HFB.out.1
               have htl : (tws W ts).length = ts.length := by unfold tws; simp
               have htk : (tws W ts).take xs.length = tws W ts := by rw [hkt, ← htl, List.take_length]
               have hls := HK.out.1
               rw [htk] at hls
               have hne0 : tws W ts ≠ [] := fun e => HNE.out (by have : (tws W ts).length = 0 := by rw [e]; rfl
                                                                 rw [htl] at this; exact List.eq_nil_of_length_eq_zero this)
               have HLS := Lib.hid hls
               have HNE0 := Lib.hid hne0
               have HTL := Lib.hid htl
               have HA := Hi (hangs_any W (HORD.out HCH.out) hls hne0 (by rw [htl]; exact hgd.2.1) (tws_len W hgd.2.2.2.1))
               have NN := Hi (fun w => need_no 7 w)
               clear hgd htl htk hls hne0 hkt
               have PP : Hid (∀ (w3 : World) (D2 : Dict), TExt wr D w3 D2 → TD W a b c p F w3 D2 → Calls Try.prog 49 #[.pointer (some ⟨L, 0, none⟩)] w3 (PairPost W w.heap.size a b c L p F M w3 D2 (tws W ts) xs rv (.slice pp ps.length cp) (eds W ps))) := Hi (fun w3 D2 tx td => by
                have hgd := form_good HFB.out.1
                exact pair_any W (HORD.out HCH.out) (w0 := w) (HLS.out.ext tx td) HNE0.out (by rw [HTL.out]; exact hgd.2.1) hgd.2.2.1 (tws_len W hgd.2.2.2.1) rfl (HK.out.2.trans (tx.out.below (fun q hq => HK.out.1.lo.2.2.2 q hq) HK.out.2.size)) HPS.out hgd.2.2.2.2)
               go_wp2_with (first | (go_at_call 48; refine HA.out.mono ?_; rintro e w3 ⟨r, rfl, hr, D2, td2, tx2⟩; have H3 := Hi (And.intro hr (And.intro td2 tx2)); clear hr td2 tx2))
               have hBW : Hid (Below w.heap.size w w3) := Hi (HK.out.2.trans (H3.out.2.2.out.below (fun q hq => HK.out.1.lo.2.2.2 q hq) HK.out.2.size))
               cases r with
               | false =>
                have HAP : Hid (nlErr W a b c ts ps = 7) := Hi (nlErr_apart W HGD.out (.inr (.inr (fun hc => by have := H3.out.1.2 hc; cases this))))
                go_wp2_with (go_at_call 24; refine (NN.out _).mono ?_; rintro e w5 ⟨rfl, rfl⟩)
                refine ⟨rfl, ?_⟩
                rw [HQ.out]
                exact .inl ⟨by rw [HAP.out]; decide, by rw [HAP.out], hBW.out⟩
               | true =>
                have HPP := Hi (PP.out w3 D2 H3.out.2.2 H3.out.2.1)
                have HNA : Hid (¬ Apart W (tws W ts)) := Hi (by
                 rintro (h | h | h)
                 · exact HNE0.out h
                 · exact h HLS.out.nodup
                 · exact h (H3.out.1.1 rfl))
                have HLW : Hid (w.heap.size ≤ w3.heap.size) := Lib.hid hBW.out.size
                by_cases hok : PairSeq W (tws W ts) [] (eds W ps)
                · have HAP : Hid (nlErr W a b c ts ps = 0) := Hi (nlErr_ok W HGD.out HNA.out hok)
                  have HP2 : Hid (Calls Try.prog 49 #[.pointer (some ⟨L, 0, none⟩)] w3 (fun e w' => e = .returned (.tuple #[]) ∧ ∃ D' pv', LSt W w.heap.size a b c L p F M w' D' (tws W ts) xs rv (.slice pp ps.length cp) pv' ∧ w'.ownsRow w3.heap.size 114 4 pv' (eds W ps).length (prow (adr D2) (eds W ps)) ∧ (∀ g, pv'.ownBlock = some g → ¬ D'.dom g) ∧ (∀ u x, D2 u x → D' u x) ∧ Below w.heap.size w3 w')) := Hi (HPP.out.mono (by
                   rintro e w5 (⟨hns, _⟩ | ⟨_, h1, h2⟩)
                   · exact (hns hok).elim
                   · exact ⟨h1, h2⟩))
                  clear hok
                  go_wp2_with (first
                   | (go_at_call 24; refine (NY.out _).mono ?_; rintro e w5 ⟨rfl, rfl⟩)
                   | (go_at_call 49; refine HP2.out.mono ?_; rintro e w5 ⟨rfl, D3, pv, hls, hrow, hsep, hmore, hb⟩; have HF5 := Hi (And.intro hls (And.intro hrow (And.intro hsep (And.intro hmore hb)))); clear hls hrow hsep hmore hb))
                  rw [HQ.out]
                  refine .inr ⟨HAP.out, L, p, F, M, D3, xs, rv, pv, _, adr D2, rfl, HF5.out.1, HF5.out.2.1, fun u hu => ?_, fun g hg => ⟨HF5.out.2.2.1 g hg, Nat.le_trans HLW.out (owns_lt HF5.out.2.1 hg).2⟩, hBW.out.trans HF5.out.2.2.2.2⟩
                  have hls3 := HLS.out.ext H3.out.2.2 H3.out.2.1
                  obtain ⟨i, hi, rfl⟩ := List.getElem_of_mem hu
                  have h1 := hls3.at_ i hi (by rw [hls3.len]; exact hi)
                  rw [adr_of W H3.out.2.1 h1]
                  exact HF5.out.2.2.2.1 _ _ h1
                · have HAP : Hid (nlErr W a b c ts ps = 8) := Hi (nlErr_pair W HGD.out HNA.out hok)
                  have HP2 : Hid (Calls Try.prog 49 #[.pointer (some ⟨L, 0, none⟩)] w3 (fun e w' => e = .panicked (refusal 8) ∧ Below w.heap.size w3 w')) := Hi (HPP.out.mono (by
                   rintro e w5 (⟨_, h1, h2⟩ | ⟨h, _⟩)
                   · exact ⟨h1, h2⟩
                   · exact (hok h).elim))
                  clear hok
                  go_wp2_with (first
                   | (go_at_call 24; refine (NY.out _).mono ?_; rintro e w5 ⟨rfl, rfl⟩)
                   | (go_at_call 49; refine HP2.out.mono ?_; rintro e w5 ⟨rfl, hb⟩; have HB5 := Lib.hid hb; clear hb))
                  refine ⟨rfl, ?_⟩
                  rw [HQ.out]
                  exact .inl ⟨by rw [HAP.out]; decide, by rw [HAP.out], hBW.out.trans HB5.out⟩
end Go.Proofs.Ytkndmibmmoikbaa
namespace Go.Proofs.Ytkndmibmmoikbaa
open Go.RowKit
open Cox (Tl)
theorem find_born : ∀ (l : List MapEntry) (j : Nat) (e0 : MapEntry), (l.map (·.born)).Nodup → l[j]? = some e0 → l.findIdx? (fun e => ((e.born : Nat) : Int) == ((e0.born : Nat) : Int)) = some j
 | [], _, _, _, h => by simp at h
 | a :: r, 0, e0, _, h => by
  simp at h; subst h
  simp [List.findIdx?_cons]
 | a :: r, j + 1, e0, hn, h => by
  simp only [List.map_cons, List.nodup_cons] at hn
  simp only [List.getElem?_cons_succ] at h
  have hne : a.born ≠ e0.born := fun e1 => hn.1 (List.mem_map.2 ⟨e0, List.mem_of_getElem? h, e1.symm⟩)
  have hb : (((a.born : Nat) : Int) == ((e0.born : Nat) : Int)) = false := by
   simp only [beq_eq_false_iff_ne, ne_eq, Int.natCast_inj]
   exact hne
  rw [List.findIdx?_cons, hb]
  simp [find_born r j e0 hn.2 h]
section
variable {P : Program} {kt mt et : TypeId} {w : World} {D : Value → Prop}
theorem store_born {M : Nat} {es : Array MapEntry} {clock : Nat} {w1 : World} (h1 : w1.heap[M]? = some (.map es clock)) (hn : (es.toList.map (·.born)).Nodup) (hb : ∀ e ∈ es.toList, e.born < clock) {j : Nat} {e0 : MapEntry} (hj : es.toList[j]? = some e0) (v : Value) :
 ∃ w2, (Instr.entryStore mt (.map (some M)) (.int .i64 (e0.born : Nat)) v).run P w1 = .ok () w2 ∧ MapOf w2 M ((es.toList.map (fun e => (e.key, e.val))).set j (e0.key, v)) ∧ Out (fun b => b = M) w1 w2 ∧ w2.heap.size = w1.heap.size := by
 have hM := (Array.getElem?_eq_some_iff.1 h1).1
 have hidx : es.findIdx? (fun e => ((e.born : Nat) : Int) == ((e0.born : Nat) : Int)) = some j := by
  have := find_born es.toList j e0 hn hj
  cases es
  simpa using this
 refine ⟨{ w1 with heap := w1.heap.setIfInBounds M (.map (es.modify j fun e => { e with val := v }) clock) }, ?_, ⟨es.modify j fun e => { e with val := v }, clock, ?_, ?_, ?_, ?_⟩, setObj_out w1 M _, by simp⟩
 · simp [Instr.entryStore, MapKept.run_getObj_map h1, asInt, asIntOf, hidx, MapKept.run_setObj_map _ h1, Result.andThen]
 · show (w1.heap.setIfInBounds M _)[M]? = _
   rw [Array.getElem?_setIfInBounds, if_pos rfl, if_pos hM]
 · refine List.ext_getElem? fun i => ?_
   rw [List.getElem?_map, Array.getElem?_toList, Array.getElem?_modify, List.getElem?_set]
   by_cases e2 : j = i
   · subst e2
     have : j < es.toList.length := (List.getElem?_eq_some_iff.1 hj).1
     rw [if_pos rfl, if_pos rfl, if_pos (by simpa using this)]
     rw [Array.getElem?_toList] at hj
     rw [hj]; rfl
   · rw [if_neg e2, if_neg e2, List.getElem?_map, Array.getElem?_toList]
 all_goals
  have hbm : (es.modify j fun e => { e with val := v }).toList.map (·.born) = es.toList.map (·.born) := by
   refine List.ext_getElem? fun i => ?_
   rw [List.getElem?_map, List.getElem?_map, Array.getElem?_toList, Array.getElem?_toList, Array.getElem?_modify]
   by_cases e2 : j = i
   · rw [if_pos e2]; cases es[i]? <;> rfl
   · rw [if_neg e2]
 · intro e hm
   have : e.born ∈ es.toList.map (·.born) := by rw [← hbm]; exact List.mem_map.2 ⟨e, hm, rfl⟩
   obtain ⟨e', hm', he'⟩ := List.mem_map.1 this
   rw [← he']; exact hb e' hm'
 · rw [hbm]; exact hn
theorem MapOf.entry_out (K : Mp.Kin P kt w D) (ht : P.underlying mt = some (.map kt et)) {M : Nat} {l : List (Value × Value)} (h : MapOf w M l) (hd : ∀ kv ∈ l, D kv.1) {k : Value} (hkd : D k) (hk : k ∉ l.map (·.1)) {z : Value} (hz : ∀ u : World, (zeroValue et).run P u = .ok z u) :
 ∃ (st : Nat) (w1 : World), (Instr.mapEntry mt (.map (some M)) k).run P w = .ok (.tuple #[z, .int .i64 st]) w1 ∧ Out (fun b => b = M) w w1 ∧ w1.heap.size = w.heap.size ∧
  ∀ v, ∃ w2, (Instr.entryStore mt (.map (some M)) (.int .i64 st) v).run P w1 = .ok () w2 ∧ MapOf w2 M (l ++ [(k, v)]) ∧ Out (fun b => b = M) w1 w2 ∧ w2.heap.size = w1.heap.size := by
 obtain ⟨es, clock, h1, h2, hbn⟩ := h
 have hkeys : es.toList.map (·.key) = l.map (·.1) := by rw [← h2]; simp
 have he : ∀ e ∈ es.toList, D e.key := fun e hm => hd (e.key, e.val) (by rw [← h2]; exact List.mem_map.2 ⟨e, hm, rfl⟩)
 have hM := (Array.getElem?_eq_some_iff.1 h1).1
 have hf := K.find hkd es.toList he
 rw [fnd_out _ _ (by rw [hkeys]; exact hk)] at hf
 refine ⟨clock, { w with heap := w.heap.setIfInBounds M (.map (es.push { key := k, val := z, born := clock }) (clock + 1)) }, ?_, setObj_out w M _, by simp, fun v => ?_⟩
 · simp [Instr.mapEntry, run_underlying ht, MapKept.run_getObj_map h1, K.check _ hkd, hf, hz, goInt, MapKept.run_setObj_map _ h1, Result.andThen]
 · have hat : ({ w with heap := w.heap.setIfInBounds M (.map (es.push { key := k, val := z, born := clock }) (clock + 1)) } : World).heap[M]? = some (.map (es.push { key := k, val := z, born := clock }) (clock + 1)) := by
    show (w.heap.setIfInBounds M _)[M]? = _
    rw [Array.getElem?_setIfInBounds, if_pos rfl, if_pos hM]
   have hlt : ∀ e ∈ (es.push { key := k, val := z, born := clock }).toList, e.born < clock + 1 := by
    intro e hm
    simp only [Array.toList_push, List.mem_append, List.mem_singleton] at hm
    rcases hm with hm | rfl
    · have := hbn.1 e hm; omega
    · show clock < clock + 1; omega
   have hnd : ((es.push { key := k, val := z, born := clock }).toList.map (·.born)).Nodup := by
    rw [Array.toList_push, List.map_append, List.nodup_append]
    refine ⟨hbn.2, by simp, fun x hx y hy => ?_⟩
    obtain ⟨e, hm, rfl⟩ := List.mem_map.1 hx
    simp at hy
    have := hbn.1 e hm
    omega
   obtain ⟨w2, g1, g2, g3, g4⟩ := store_born (P := P) (mt := mt) hat hnd hlt (j := es.toList.length) (e0 := { key := k, val := z, born := clock }) (by rw [Array.toList_push]; simp) v
   refine ⟨w2, g1, ?_, g3, g4⟩
   rw [Array.toList_push, List.map_append, h2] at g2
   have hl : es.toList.length = l.length := by rw [← h2]; simp
   rw [hl] at g2
   simpa using g2
theorem MapOf.entry_in (K : Mp.Kin P kt w D) (ht : P.underlying mt = some (.map kt et)) {M : Nat} {l : List (Value × Value)} (h : MapOf w M l) (hd : ∀ kv ∈ l, D kv.1) (hn : (l.map (·.1)).Nodup) {k u : Value} {j : Nat} (hj : l[j]? = some (k, u)) :
 ∃ (st : Nat) (w1 : World), (Instr.mapEntry mt (.map (some M)) k).run P w = .ok (.tuple #[u, .int .i64 st]) w1 ∧ Out (fun b => b = M) w w1 ∧ w1.heap.size = w.heap.size ∧
  ∀ v, ∃ w2, (Instr.entryStore mt (.map (some M)) (.int .i64 st) v).run P w1 = .ok () w2 ∧ MapOf w2 M (l.set j (k, v)) ∧ Out (fun b => b = M) w1 w2 ∧ w2.heap.size = w1.heap.size := by
 obtain ⟨es, clock, h1, h2, hbn⟩ := h
 have hkeys : es.toList.map (·.key) = l.map (·.1) := by rw [← h2]; simp
 have he : ∀ e ∈ es.toList, D e.key := fun e hm => hd (e.key, e.val) (by rw [← h2]; exact List.mem_map.2 ⟨e, hm, rfl⟩)
 have hkl : (k, u) ∈ l := List.mem_of_getElem? hj
 have hkd : D k := hd _ hkl
 have hM := (Array.getElem?_eq_some_iff.1 h1).1
 have hf := K.find hkd es.toList he
 obtain ⟨j', v', hf2⟩ := fnd_in (k := k) es.toList 0 (by rw [hkeys]; exact List.mem_map.2 ⟨_, hkl, rfl⟩)
 rw [hf2] at hf
 obtain ⟨_, e, g1, g2, g3⟩ := Mp.fnd_some _ _ _ _ hf2
 rw [Nat.sub_zero] at g1
 have hjj : j' = j := by
  have hjl : (l.map (·.1))[j]? = some k := by rw [List.getElem?_map, hj]; rfl
  have hj'l : (l.map (·.1))[j']? = some k := by rw [← hkeys, List.getElem?_map, g1, ← g2]; rfl
  have hlt : j < (l.map (·.1)).length := (List.getElem?_eq_some_iff.1 hjl).1
  exact ((List.getElem?_inj hlt hn).1 (by rw [hjl, hj'l])).symm
 subst hjj
 have hvu : v' = u := by
  have : l[j']? = some (e.key, e.val) := by rw [← h2, List.getElem?_map, g1]; rfl
  rw [hj] at this
  simp at this
  rw [← g3, this.2]
 subst hvu
 have hsame : (Instr.keyThatStays k k).run P w = .ok k w := by simp [Instr.keyThatStays, K.bits _ hkd]
 have h5 : es[j']? = some e := by simpa using g1
 have hmod : (es.modify j' fun e => { e with key := k }) = es := by
  apply Array.ext'
  refine List.ext_getElem? fun i => ?_
  rw [Array.getElem?_toList, Array.getElem?_modify]
  by_cases e2 : j' = i
  · subst e2
    rw [if_pos rfl, h5, Array.getElem?_toList, h5, ← g2]; rfl
  · rw [if_neg e2, Array.getElem?_toList]
 refine ⟨e.born, { w with heap := w.heap.setIfInBounds M (.map es clock) }, ?_, setObj_out w M _, by simp, fun v => ?_⟩
 · simp [Instr.mapEntry, run_underlying ht, MapKept.run_getObj_map h1, K.check _ hkd, hf, h5, g2, hsame, goInt, hmod, MapKept.run_setObj_map _ h1, Result.andThen]
 · have hat : ({ w with heap := w.heap.setIfInBounds M (.map es clock) } : World).heap[M]? = some (.map es clock) := by
    show (w.heap.setIfInBounds M _)[M]? = _
    rw [Array.getElem?_setIfInBounds, if_pos rfl, if_pos hM]
   obtain ⟨w2, q1, q2, q3, q4⟩ := store_born (P := P) (mt := mt) hat hbn.2 hbn.1 g1 v
   rw [h2, g2] at q2
   exact ⟨w2, q1, q2, q3, q4⟩
end
end Go.Proofs.Ytkndmibmmoikbaa
