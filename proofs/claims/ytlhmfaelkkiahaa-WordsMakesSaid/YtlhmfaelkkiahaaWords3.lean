import Derived.Test.YtlhmfaelkkiahaaWords2
namespace Go.Proofs.Ytlhmfaelkkiahaa
open Go.RowKit
open Cox (Tl)

theorem strs_one (W : World) (s : ByteArray) (b : Nat) (T : TypeId) (h : b = W.heap.size) : Strs (W.alloc (.cells #[.string s] T)) b [s] := by
  subst h
  intro i hi
  have : i = 0 := by simpa using hi
  subst this
  simp
theorem strs_two (W : World) (s t : ByteArray) (b : Nat) (T : TypeId) (h : b = W.heap.size) : Strs (W.alloc (.cells #[.string s, .string t] T)) b [s, t] := by
  subst h
  intro i hi
  have : i = 0 ∨ i = 1 := by simp at hi; omega
  rcases this with rfl | rfl <;> simp

theorem normal_no (a b c : Int) (s : ByteArray) (hs : s.size ≤ maxLen) (he : errs a b c [s] ≠ 0) (w : World) :
    Calls Try.prog 9 #[oval a b c, .string s] w fun e w' => e = .returned (.tuple #[.string ⟨#[]⟩, .int .i64 (errs a b c [s])]) ∧ Below w.heap.size w w' := by
  have BN := fun (bl C : Nat) (w : World) (hbl : bl < w.heap.size) (hl : Strs w bl [s]) => begun_no a b c [s] bl C (by simp) (by simpa using hs) w hbl hl he
  have HB := Lib.hid BN
  clear BN he
  generalize errs a b c [s] = r at *
  unfold oval at *
  go_enter_defers Try.func9, Try.ntmps9
  go_wp2_with fail
  go_at_call 26
  refine (HB.out _ _ _ (by simp) (strs_one _ _ _ _ (by simp))).mono ?_
  rintro e w2 ⟨rfl, hb2⟩
  have q4 : w2.cell? ⟨w.heap.size + 1, 0, none⟩ = some (.int .i64 0) := by rw [Below.cell (p := ⟨w.heap.size + 1, 0, none⟩) hb2 (by simp), World.cell?_alloc_past _ _ _ (by simp), World.cell?_alloc_at _ _ _ _ (by simp)]; rfl
  have q5 : w2.frozen? ⟨w.heap.size + 1, 0, none⟩ = false := by rw [Below.frozen (p := ⟨w.heap.size + 1, 0, none⟩) hb2 (by simp), World.frozen?_alloc_past _ _ _ (by simp), World.frozen?_alloc_at _ _ _ _ (by simp)]
  have hb3 : Below w.heap.size w w2 := ((((Below.refl _ _).alloc (Nat.le_refl _) _).alloc (by simp) _).alloc (by simp; omega) _).trans (hb2.mono (by simp; omega))
  refine leaves_cons (f := 25) (args := #[.pointer (some ⟨w.heap.size + 1, 0, none⟩)]) (by simp) (by simp [go_sem]) ?_
  refine (caught_panicking ⟨w.heap.size + 1, 0, none⟩ 0 r [] _ q4 q5).mono ?_
  rintro e u' w'' ⟨rfl, rfl, rfl⟩
  have hb4 := hb3.setCell (p := ⟨w.heap.size + 1, 0, none⟩) (by simp) (.int .i64 r)
  simp [Leaves, settle, results, Try.results9, go_sem, q4, hb4]

theorem ords_lt {a b c : Nat} (ha : a ≤ 12) (hb : b ≤ 12) (hc : c ≤ 12) (i j : Fin 3) : ords a b c i j < 100 := by
  unfold ords; split
  · omega
  · split
    · omega
    · split <;> omega

theorem Rep.below {w w' : World} {A : Nat → Nat} {st : List Tl} (h : Rep w A st) (hb : Below w.heap.size w w') : Rep w' A st :=
  ⟨fun k nk hk => by rw [hb.block _ (h.lt (List.getElem?_eq_some_iff.1 hk).1)]; exact h.cells k nk hk, h.inj, h.closed⟩
theorem Rep.fresh {w : World} {A : Nat → Nat} {st : List Tl} (h : Rep w A st) {b : Nat} (hb : w.heap.size ≤ b) : ¬ In A st.length b := by
  rintro ⟨k, hk, he⟩
  have := h.lt hk
  omega

section
variable {K : Type} [Cox.OR K]

/-- a plane with its tiles, made since the world w0 -/
structure PState (w0 : World) (T : Cox.Tri K) (a b c p F : Nat) (A : Nat → Nat) (st : List Tl) (P : Nat → Prop) (w : World) : Prop where
  orders : T.m = ords a b c ∧ a ≤ 12 ∧ b ≤ 12 ∧ c ≤ 12
  plane : w.heap[p]? = some (.cells (pcells (ords a b c) F) 65 (0, 0))
  new : w0.heap.size ≤ p
  notin : ¬ In A st.length p
  rep : Rep w A st
  first : A 0 = F
  ok : Cox.Ok T st P (fun _ _ => False)
  bound : ∀ k, P k → k < st.length
  root : Cox.At st P 0 []
  low : ∀ k, k < st.length → w0.heap.size ≤ A k
  below : Below w0.heap.size w0 w

theorem PState.mono {w0 : World} {T : Cox.Tri K} {a b c p F : Nat} {A : Nat → Nat} {st : List Tl} {P : Nat → Prop} {w w' : World} (h : PState w0 T a b c p F A st P w) (hb : Below w.heap.size w w') : PState w0 T a b c p F A st P w' := by
  have hpl : p < w.heap.size := (Array.getElem?_eq_some_iff.1 h.plane).1
  exact ⟨h.orders, by rw [hb.block _ hpl]; exact h.plane, h.new, h.notin, h.rep.below hb, h.first, h.ok, h.bound, h.root, h.low, h.below.trans (hb.mono h.below.size)⟩

theorem PState.start {w0 : World} (T : Cox.Tri K) {a b c p F : Nat} {w : World} (hT : T.m = ords a b c ∧ a ≤ 12 ∧ b ≤ 12 ∧ c ≤ 12) (h : PlaneNew w0 a b c p F w) : PState w0 T a b c p F (fun _ => F) [Cox.first] (fun k => k = 0) w := by
  obtain ⟨h1, h2, h3, h4, h5, h6⟩ := h
  refine ⟨hT, h1, h4, ?_, h5, rfl, Cox.first_ok T, fun k hk => by subst hk; simp, ⟨rfl, Cox.first, rfl, rfl⟩, fun _ _ => h3, h6⟩
  rintro ⟨k, _, he⟩
  exact h2 he.symm

/-- Walk, from a tile of a plane -/
theorem walk_st {w0 : World} {T : Cox.Tri K} {a b c p F : Nat} {A : Nat → Nat} {st : List Tl} {P : Nat → Prop} {w : World} (h : PState w0 T a b c p F A st P w) {x : Nat} {u : List (Fin 3)} (hx : Cox.At st P x (Cox.nf T u)) (l : List (Fin 3)) (hl : u.length + l.length < 100000) :
    Calls Try.prog 37 #[.pointer (some ⟨p, 0, none⟩), .pointer (some ⟨A x, 0, none⟩), .string (wb l)] w fun e w' =>
      ∃ A' st' P' y, e = .returned (.pointer (some ⟨A' y, 0, none⟩)) ∧ Cox.At st' P' y (Cox.nf T (u ++ l)) ∧ PState w0 T a b c p F A' st' P' w' ∧ Out (In A st.length) w w' := by
  obtain ⟨hT, ha, hb, hc⟩ := h.orders
  obtain ⟨st', P', y, h1, h2, h3, h4, h5⟩ := Cox.walk_ok T (f := 100000) l st P x u h.ok h.bound hx (by omega)
  rw [hT] at h1
  refine (walk_say (ords a b c) (ords_lt ha hb hc) 100000 (by omega) A st x l w st' y p F h.rep hx.lt h.plane h.notin (by omega) h1).mono ?_
  rintro e w' ⟨A', rfl, hy, hg⟩
  refine ⟨A', st', P', y, rfl, h4, ?_, hg.out⟩
  have hpl := hg.plane h.plane h.notin
  have hlow : ∀ k, k < st'.length → w0.heap.size ≤ A' k := by
    intro k hk
    rcases Nat.lt_or_ge k st.length with hk' | hk'
    · rw [hg.old k hk']; exact h.low k hk'
    · exact Nat.le_trans h.below.size (hg.new k hk' hk)
  refine ⟨h.orders, hpl.1, h.new, hpl.2, hg.rep, ?_, h2, h3, h5 _ _ h.root, hlow, ?_⟩
  · rw [hg.old 0 h.root.lt]; exact h.first
  · refine h.below.trans (hg.out.below (B := w0.heap.size) ?_ h.below.size)
    rintro b ⟨k, hk, rfl⟩
    exact h.low k hk

/-- normal, of a plane -/
theorem normal_st {w0 : World} {T : Cox.Tri K} {a b c p F : Nat} {A : Nat → Nat} {st : List Tl} {P : Nat → Prop} {w : World} (h : PState w0 T a b c p F A st P w) (ws : List (List (Fin 3))) (hn : ws.length < 100) (hl : ∀ l, l ∈ ws → l.length < 1000) (bl C : Nat)
    (hf : ws.flatten.length < 100000) (hbl : bl < w.heap.size) (hbA : ¬ In A st.length bl) (hs : Strs w bl (ws.map wb)) :
    Calls Try.prog 27 #[.agg #[.pointer (some ⟨p, 0, none⟩)], .slice (some ⟨bl, 0, none⟩) ws.length C] w fun e w' =>
      ∃ A' st' P', e = .returned (.string (wb (Cox.nf T ws.flatten))) ∧ PState w0 T a b c p F A' st' P' w' ∧ Out (In A st.length) w w' := by
  obtain ⟨hT, ha, hb, hc⟩ := h.orders
  obtain ⟨st', P', y, h1, h2, h3, h4, h5⟩ := Cox.walk_ok T (f := 100000) ws.flatten st P 0 [] h.ok h.bound (by rw [Cox.nf_nil]; exact h.root) (by simpa using Nat.le_of_lt hf)
  rw [hT] at h1
  obtain ⟨hpy, ny, hy, hny⟩ := h4
  refine (normal_any (ords a b c) (ords_lt ha hb hc) 100000 (by omega) A st ws w st' y p F bl C ny h.rep h.root.lt h.first h.plane h.notin (fun l hl' => by have := hl l hl'; omega) hn h1 hy hbl hbA hs).mono ?_
  rintro e w' ⟨A', rfl, hg⟩
  refine ⟨A', st', P', by rw [hny]; rfl, ?_, hg.out⟩
  have hpl := hg.plane h.plane h.notin
  have hlow : ∀ k, k < st'.length → w0.heap.size ≤ A' k := by
    intro k hk
    rcases Nat.lt_or_ge k st.length with hk' | hk'
    · rw [hg.old k hk']; exact h.low k hk'
    · exact Nat.le_trans h.below.size (hg.new k hk' hk)
  refine ⟨h.orders, hpl.1, h.new, hpl.2, hg.rep, ?_, h2, h3, h5 _ _ h.root, hlow, ?_⟩
  · rw [hg.old 0 h.root.lt]; exact h.first
  · refine h.below.trans (hg.out.below (B := w0.heap.size) ?_ h.below.size)
    rintro b ⟨k, hk, rfl⟩
    exact h.low k hk

theorem errs_ok {a b c : Int} {ws : List (List (Fin 3))} (he : errs a b c (ws.map wb) = 0) : chk a b c = 0 ∧ ∀ l, l ∈ ws → l.length ≤ 60 := by
  have hz : chk a b c = 0 := by
    unfold errs at he
    by_cases h : chk a b c = 0
    · exact h
    · rw [if_neg h] at he; exact (h he).elim
  refine ⟨hz, ?_⟩
  unfold errs at he
  rw [if_pos hz] at he
  clear hz
  induction ws with
  | nil => intro l hl; cases hl
  | cons x ws ih =>
    simp only [List.map_cons, cws] at he
    by_cases h : cw (wb x) = 0
    · rw [if_pos h] at he
      intro l hl
      rcases List.mem_cons.1 hl with rfl | hl
      · obtain ⟨l', h1, h2⟩ := cw_zero h
        have : l.length = l'.length := by rw [← wb_size, h1, wb_size]
        omega
      · exact ih he l hl
    · rw [if_neg h] at he; exact (h he).elim
theorem short_wb {ws : List (List (Fin 3))} (h : ∀ l, l ∈ ws → l.length ≤ 60) : ∀ s, s ∈ ws.map wb → s.size ≤ maxLen := by
  intro s hs
  obtain ⟨l, hl, rfl⟩ := List.mem_map.1 hs
  have := h l hl
  rw [wb_size]; unfold maxLen; omega

/-- begun, as a plane's state -/
theorem begun_st (T : Cox.Tri K) (a b c : Nat) (hT : T.m = ords a b c) (ws : List (List (Fin 3))) (bl C : Nat) (hn : ws.length < 100) (w : World) (hbl : bl < w.heap.size) (hl : Strs w bl (ws.map wb)) (he : errs a b c (ws.map wb) = 0) :
    Calls Try.prog 26 #[oval a b c, .slice (some ⟨bl, 0, none⟩) ws.length C] w fun e w' => ∃ p F, e = .returned (.agg #[.pointer (some ⟨p, 0, none⟩)]) ∧ PState w T a b c p F (fun _ => F) [Cox.first] (fun k => k = 0) w' := by
  obtain ⟨hz, h60⟩ := errs_ok he
  obtain ⟨x, y', z, hx, hy, hz', x1, x2, x3, _⟩ := chk_zero hz
  have := begun_yes a b c (ws.map wb) bl C (by simpa using hn) (short_wb h60) w hbl hl he
  rw [List.length_map] at this
  refine this.mono ?_
  rintro e w' ⟨p, F, rfl, hp⟩
  exact ⟨p, F, rfl, PState.start T ⟨hT, by omega, by omega, by omega⟩ hp⟩

theorem normal_yes (T : Cox.Tri K) (a b c : Nat) (hT : T.m = ords a b c) (l : List (Fin 3)) (he : errs a b c [wb l] = 0) (w : World) :
    Calls Try.prog 9 #[oval a b c, .string (wb l)] w fun e w' => e = .returned (.tuple #[.string (wb (Cox.nf T l)), .int .i64 0]) ∧ Below w.heap.size w w' := by
  obtain ⟨_, h60⟩ := errs_ok (ws := [l]) he
  have hl60 := h60 l (by simp)
  have HB := Lib.hid (fun (bl C : Nat) (w : World) (hbl : bl < w.heap.size) (hl : Strs w bl ([l].map wb)) => begun_st T a b c hT [l] bl C (by simp) w hbl hl he)
  clear he h60
  have e1 : ((1 : Nat) : Int) = 1 := rfl
  unfold oval at *
  go_enter_defers Try.func9, Try.ntmps9
  go_wp2_with fail
  go_at_call 26
  refine (HB.out _ _ _ (by simp) (strs_one _ _ _ _ (by simp))).mono ?_
  rintro e wa ⟨p, F, rfl, hst⟩
  have hb2 := hst.below
  have hst2 := hst.mono (((Below.refl _ _).alloc (Nat.le_refl _) (.cells #[.string (wb l)] 9)))
  have NS := normal_st hst2 [l] (by simp) (by intro x hx; have hx' : x = l := by simpa using hx
                                              subst hx'; omega) wa.heap.size 1 (by simp; omega) (by simp) (hst.rep.fresh (Nat.le_refl _)) (strs_one _ _ _ _ rfl)
  have HNS := Lib.hid NS
  clear NS hst2 hst
  go_wp2_with fail
  go_at_call 27
  refine HNS.out.mono ?_
  rintro e wb2 ⟨A', st', P', rfl, hst3, _⟩
  have hb2 := hst3.below
  have q4 : wb2.cell? ⟨w.heap.size + 1, 0, none⟩ = some (.int .i64 0) := by rw [Below.cell (p := ⟨w.heap.size + 1, 0, none⟩) hb2 (by simp), World.cell?_alloc_past _ _ _ (by simp), World.cell?_alloc_at _ _ _ _ (by simp)]; rfl
  have q5 : wb2.frozen? ⟨w.heap.size + 1, 0, none⟩ = false := by rw [Below.frozen (p := ⟨w.heap.size + 1, 0, none⟩) hb2 (by simp), World.frozen?_alloc_past _ _ _ (by simp), World.frozen?_alloc_at _ _ _ _ (by simp)]
  have hb3 : Below w.heap.size w wb2 := ((((Below.refl _ _).alloc (Nat.le_refl _) _).alloc (by simp) _).alloc (by simp; omega) _).trans (hb2.mono (by simp; omega))
  have hb4 := hb3.setCell (p := ⟨w.heap.size + 1, 0, none⟩) (by simp) (.int .i64 0)
  have hfl : [l].flatten = l := by simp
  rw [hfl]
  have HB4 := Lib.hid hb4
  clear HNS hst3 hb2 hb3 hb4 hfl
  go_wp2_with fail
  refine leaves_cons (f := 25) (args := #[.pointer (some ⟨w.heap.size + 1, 0, none⟩)]) (by simp) (by simp [go_sem]) ?_
  refine (caught_idle ⟨w.heap.size + 1, 0, none⟩ _).mono ?_
  rintro e u' w'' ⟨rfl, rfl, rfl⟩
  have hb4 := HB4.out
  simp [Leaves, settle, results, Try.results9, go_sem, q4, hb4]
end
end Go.Proofs.Ytlhmfaelkkiahaa
