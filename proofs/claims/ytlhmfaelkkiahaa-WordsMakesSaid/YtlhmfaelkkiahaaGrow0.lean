import Derived.Test.YtlhmfaelkkiahaaProg
import Derived.Test.YtlhmfaelkkiahaaCox
import Derived.WalkKit
import Derived.RegionTactic
import Derived.ChangeAlike
import Derived.BigRegion
import Derived.Outline
import Derived.Lib.Hide
namespace Go.Proofs.Ytlhmfaelkkiahaa
open Go.RowKit
open Cox (Tl)

theorem cell_of {w : World} {b : Nat} {cs : Array Value} {T : TypeId} {fr : Nat × Nat} (h : w.heap[b]? = some (.cells cs T fr)) (o : Nat) : w.cell? ⟨b, o, none⟩ = cs[o]? := by
  simp [World.cell?, h]
theorem free_of {w : World} {b : Nat} {cs : Array Value} {T : TypeId} (h : w.heap[b]? = some (.cells cs T (0, 0))) (o : Nat) : w.frozen? ⟨b, o, none⟩ = false := by
  simp [World.frozen?, h]

/-- a word as bytes -/
def wb (l : List (Fin 3)) : ByteArray := ⟨(l.map fun i => UInt8.ofNat i.val).toArray⟩
def pv (A : Nat → Nat) : Option Nat → Value
  | none => .pointer none
  | some k => .pointer (some ⟨A k, 0, none⟩)
def tcells (A : Nat → Nat) (nd : Tl) : Array Value := #[.string (wb nd.word), pv A (nd.to 0), pv A (nd.to 1), pv A (nd.to 2), .bool (nd.down 0), .bool (nd.down 1), .bool (nd.down 2)]

/-- the graph lies in memory: tile k in block A k -/
structure Rep (w : World) (A : Nat → Nat) (st : List Tl) : Prop where
  cells : ∀ (k : Nat) (nd : Tl), st[k]? = some nd → w.heap[A k]? = some (.cells (tcells A nd) 75 (0, 0))
  inj : ∀ (j k : Nat), j < st.length → k < st.length → A j = A k → j = k
  closed : ∀ (k : Nat) (nd : Tl) (i : Fin 3) (b : Nat), st[k]? = some nd → nd.to i = some b → b < st.length

theorem Rep.lt {w : World} {A : Nat → Nat} {st : List Tl} (h : Rep w A st) {k : Nat} (hk : k < st.length) : A k < w.heap.size := by
  have := h.cells k st[k] (List.getElem?_eq_getElem hk)
  exact (Array.getElem?_eq_some_iff.1 this).1

/-- outside of S nothing turns -/
structure Out (S : Nat → Prop) (w w' : World) : Prop where
  os : w'.os = w.os
  tape : w'.tape = w.tape
  output : w'.output = w.output
  size : w.heap.size ≤ w'.heap.size
  block : ∀ b, b < w.heap.size → ¬ S b → w'.heap[b]? = w.heap[b]?

theorem Out.refl (S : Nat → Prop) (w : World) : Out S w w := ⟨rfl, rfl, rfl, Nat.le_refl _, fun _ _ _ => rfl⟩
theorem Out.trans {S S' : Nat → Prop} {a b c : World} (h : Out S a b) (g : Out S' b c) (hs : ∀ k, S' k → k < a.heap.size → S k) : Out S a c :=
  ⟨g.os.trans h.os, g.tape.trans h.tape, g.output.trans h.output, Nat.le_trans h.size g.size,
    fun k hk hn => (g.block k (Nat.lt_of_lt_of_le hk h.size) fun e => hn (hs k e hk)).trans (h.block k hk hn)⟩
theorem Out.below {w w' : World} {B : Nat} {S : Nat → Prop} (h : Out S w w') (hs : ∀ b, S b → B ≤ b) (hB : B ≤ w.heap.size) : Below B w w' :=
  ⟨h.os, h.tape, h.output, h.size, fun k hk => h.block k (by omega) fun e => by have := hs k e; omega⟩

/-- the graph's blocks -/
def In (A : Nat → Nat) (n : Nat) : Nat → Prop := fun b => ∃ k, k < n ∧ A k = b

theorem heap_setCell (w : World) (b o : Nat) (v : Value) (k : Nat) {cs : Array Value} {T : TypeId} {fr : Nat × Nat} (h : w.heap[b]? = some (.cells cs T fr)) :
    (w.setCell ⟨b, o, none⟩ v).heap[k]? = if k = b then some (.cells (cs.setIfInBounds o v) T fr) else w.heap[k]? := by
  simp only [World.setCell, Array.getElem?_modify]
  by_cases e : b = k
  · subst e; simp [h]
  · rw [if_neg e, if_neg (fun h => e h.symm)]

theorem heap_setCell' (w : World) (b o : Nat) (v : Value) (k : Nat) : (w.setCell ⟨b, o, none⟩ v).heap[k]? = if k = b then (w.heap[b]?).map (fun | .cells cs T fr => .cells (cs.setIfInBounds o v) T fr | ob => ob) else w.heap[k]? := by
  simp only [World.setCell, Array.getElem?_modify]
  by_cases e : b = k
  · subst e; simp; rfl
  · rw [if_neg e, if_neg (fun h => e h.symm)]

theorem tcells_to (A : Nat → Nat) (nd : Tl) (s : Fin 3) (y : Nat) : (tcells A nd).setIfInBounds (1 + s.val) (.pointer (some ⟨A y, 0, none⟩)) = tcells A { nd with to := Cox.upd nd.to s (some y) } := by
  match s with
  | 0 => rfl
  | 1 => rfl
  | 2 => rfl
theorem tcells_down (A : Nat → Nat) (nd : Tl) (s : Fin 3) : (tcells A nd).setIfInBounds (4 + s.val) (.bool true) = tcells A { nd with down := Cox.upd nd.down s true } := by
  match s with
  | 0 => rfl
  | 1 => rfl
  | 2 => rfl

theorem link_fin {A : Nat → Nat} {st : List Tl} {x y : Nat} {s : Fin 3} {w : World} (h : Rep w A st) (hx : x < st.length) (hy : y < st.length) (hxy : x ≠ y) (w' : World)
    (hw : w' = ((((w.setCell ⟨A x, 1 + s.val, none⟩ (.pointer (some ⟨A y, 0, none⟩))).setCell ⟨A y, 1 + s.val, none⟩ (.pointer (some ⟨A x, 0, none⟩))).setCell ⟨A y, 4 + s.val, none⟩ (.bool true))).drew) :
    Rep w' A (Cox.link st x y s) ∧ Out (In A st.length) w w' := by
  obtain ⟨nx, hnx⟩ : ∃ nd, st[x]? = some nd := ⟨_, List.getElem?_eq_getElem hx⟩
  obtain ⟨ny, hny⟩ : ∃ nd, st[y]? = some nd := ⟨_, List.getElem?_eq_getElem hy⟩
  have ha := h.cells x nx hnx
  have hb := h.cells y ny hny
  have hab : ¬ A x = A y := fun e => hxy (h.inj x y hx hy e)
  have hba : ¬ A y = A x := fun e => hab e.symm
  have hh : ∀ k, w'.heap[k]? = if k = A y then some (.cells (tcells A { ny with to := Cox.upd ny.to s (some x), down := Cox.upd ny.down s true }) 75 (0, 0)) else if k = A x then some (.cells (tcells A { nx with to := Cox.upd nx.to s (some y) }) 75 (0, 0)) else w.heap[k]? := by
    intro k
    rw [hw]
    show (World.setCell _ _ _).heap[k]? = _
    simp only [heap_setCell']
    by_cases e : k = A y
    · subst e
      simp only [if_true, if_neg hba, hb, Option.map]
      rw [tcells_to, tcells_down]
    · simp only [if_neg e]
      by_cases e2 : k = A x
      · subst e2
        simp only [if_true, ha, Option.map]
        rw [tcells_to]
      · simp only [if_neg e2]
  have hg := fun k => Cox.getElem?_link (st := st) (s := s) hxy k
  refine ⟨⟨?_, ?_, ?_⟩, ?_⟩
  · intro k nd hk
    have hkl : k < st.length := by have := (List.getElem?_eq_some_iff.1 hk).1; rwa [Cox.length_link] at this
    rw [hh]
    rw [hg] at hk
    by_cases e : k = x
    · subst e
      rw [if_pos rfl, hnx] at hk
      cases hk
      rw [if_neg hab, if_pos rfl]
    · rw [if_neg e] at hk
      have e1 : ¬ A k = A x := fun q => e (h.inj k x hkl hx q)
      by_cases e2 : k = y
      · subst e2
        rw [if_pos rfl, hny] at hk
        cases hk
        rw [if_pos rfl]
      · rw [if_neg e2] at hk
        have e3 : ¬ A k = A y := fun q => e2 (h.inj k y hkl hy q)
        rw [if_neg e3, if_neg e1]
        exact h.cells k nd hk
  · intro j k hj hk
    rw [Cox.length_link] at hj hk
    exact h.inj j k hj hk
  · intro k nd i b hk hb
    rw [Cox.length_link]
    rw [hg] at hk
    by_cases e : k = x
    · subst e
      rw [if_pos rfl, hnx] at hk
      cases hk
      by_cases e3 : i = s
      · subst e3; simp only [Cox.upd_same] at hb; cases hb; exact hy
      · simp only [Cox.upd_ne _ _ e3] at hb; exact h.closed k nx i b hnx hb
    · rw [if_neg e] at hk
      by_cases e2 : k = y
      · subst e2
        rw [if_pos rfl, hny] at hk
        cases hk
        by_cases e3 : i = s
        · subst e3; simp only [Cox.upd_same] at hb; cases hb; exact hx
        · simp only [Cox.upd_ne _ _ e3] at hb; exact h.closed k ny i b hny hb
      · rw [if_neg e2] at hk
        exact h.closed k nd i b hk hb
  · subst hw
    refine ⟨rfl, rfl, rfl, by simp [World.setCell, World.drew], fun b hb hn => ?_⟩
    rw [hh, if_neg (fun e => hn ⟨y, hy, e.symm⟩), if_neg (fun e => hn ⟨x, hx, e.symm⟩)]

theorem link_any (A : Nat → Nat) (st : List Tl) (x y : Nat) (s : Fin 3) (w : World) (h : Rep w A st) (hx : x < st.length) (hy : y < st.length) (hxy : x ≠ y) :
    Calls Try.prog 46 #[.pointer (some ⟨A x, 0, none⟩), .pointer (some ⟨A y, 0, none⟩), .int .i64 (s.val : Int)] w fun e w' =>
      e = .returned (.tuple #[]) ∧ Rep w' A (Cox.link st x y s) ∧ Out (In A st.length) w w' := by
  have F := Lib.hid (link_fin (s := s) h hx hy hxy)
  obtain ⟨nx, hnx⟩ : ∃ nd, st[x]? = some nd := ⟨_, List.getElem?_eq_getElem hx⟩
  obtain ⟨ny, hny⟩ : ∃ nd, st[y]? = some nd := ⟨_, List.getElem?_eq_getElem hy⟩
  have ha := h.cells x nx hnx
  have hb := h.cells y ny hny
  have hab : ¬ A x = A y := fun e => hxy (h.inj x y hx hy e)
  have fa := fun o => free_of ha o
  have fb := fun o => free_of hb o
  suffices hs : Calls Try.prog 46 #[.pointer (some ⟨A x, 0, none⟩), .pointer (some ⟨A y, 0, none⟩), .int .i64 (s.val : Int)] w fun e w' =>
      e = .returned (.tuple #[]) ∧ w' = ((((w.setCell ⟨A x, 1 + s.val, none⟩ (.pointer (some ⟨A y, 0, none⟩))).setCell ⟨A y, 1 + s.val, none⟩ (.pointer (some ⟨A x, 0, none⟩))).setCell ⟨A y, 4 + s.val, none⟩ (.bool true))).drew from
    hs.mono fun e w' h => ⟨h.1, F.out w' h.2⟩
  clear F h hnx hny
  generalize A x = a at *
  generalize A y = b at *
  have hba : ¬ b = a := fun e => hab e.symm
  have a0 := cell_of ha 0
  have a1 := cell_of ha 1
  have a2 := cell_of ha 2
  have a3 := cell_of ha 3
  have b0 := cell_of hb 0
  have b1 := cell_of hb 1
  have b2 := cell_of hb 2
  have b3 := cell_of hb 3
  have b4 := cell_of hb 4
  have b5 := cell_of hb 5
  have b6 := cell_of hb 6
  simp [tcells] at a0 a1 a2 a3 b0 b1 b2 b3 b4 b5 b6
  clear ha hb
  match s with
  | 0 =>
    go_enter Try.func46, Try.ntmps46
    go_wp2
    go_region
    all_goals go_wp2
    all_goals (go_end0; exact ⟨rfl, rfl⟩)
  | 1 =>
    go_enter Try.func46, Try.ntmps46
    go_wp2
    go_region
    all_goals go_wp2
    all_goals (go_end0; exact ⟨rfl, rfl⟩)
  | 2 =>
    go_enter Try.func46, Try.ntmps46
    go_wp2
    go_region
    all_goals go_wp2
    all_goals (go_end0; exact ⟨rfl, rfl⟩)

def lres (A : Nat → Nat) (o : Option Nat) : Ending := .returned (.tuple #[pv A o, .bool o.isSome])

theorem lowest_succ {st : List Tl} {x : Nat} {i j : Fin 3} {n : Nat} {o : Option Nat} (h : Cox.lowest st x i j (n + 1) = some o) :
    ∃ nd, st[x]? = some nd ∧ ((nd.down i = false ∧ o = none) ∨ (nd.down i = true ∧ ∃ x', nd.to i = some x' ∧ Cox.lowest st x' j i n = some o)) := by
  simp only [Cox.lowest] at h
  cases hx : st[x]? with
  | none => rw [hx] at h; cases h
  | some nd =>
    rw [hx] at h
    simp only [Option.bind_some] at h
    refine ⟨nd, rfl, ?_⟩
    cases hd : nd.down i with
    | false => rw [hd] at h; simp at h; exact .inl ⟨rfl, h.symm⟩
    | true =>
      rw [hd] at h
      simp only [if_true] at h
      cases ht : nd.to i with
      | none => rw [ht] at h; cases h
      | some x' => rw [ht] at h; exact .inr ⟨rfl, x', rfl, h⟩

theorem lowest_any (A : Nat → Nat) (st : List Tl) (x : Nat) (i j : Fin 3) (n : Nat) (w : World) (h : Rep w A st) (o : Option Nat) (hl : Cox.lowest st x i j n = some o) (hn : n < 100) :
    Calls Try.prog 47 #[.pointer (some ⟨A x, 0, none⟩), .int .i64 (i.val : Int), .int .i64 (j.val : Int), .int .i64 (n : Int)] w fun e w' => e = lres A o ∧ w' = w := by
  have H := Lib.hid h
  have HL := Lib.hid hl
  clear h hl
  go_enter Try.func47, Try.ntmps47
  go_wp2
  go_loop [0, 1, 2, 11] (fun t a b c => ∃ (k x' : Nat) (i' j' : Fin 3), k ≤ n ∧ t = .pointer (some ⟨A x', 0, none⟩) ∧ a = .int .i64 (i'.val : Int) ∧ b = .int .i64 (j'.val : Int) ∧ c = .int .i64 k ∧ Hid (Cox.lowest st x' i' j' (n - k) = some o))
    (fun _ _ _ c => n - (intOf c).toNat)
  case atStart => exact ⟨0, x, i, j, Nat.zero_le _, rfl, rfl, rfl, rfl, HL⟩
  case round =>
    obtain ⟨k, x', i', j', hk, rfl, rfl, rfl, rfl, HK⟩ := hrel
    clear HL
    by_cases hlt : k < n
    · obtain ⟨q, hq⟩ : ∃ q, n - k = q + 1 := ⟨n - k - 1, by omega⟩
      have hh := HK.out
      rw [hq] at hh
      obtain ⟨nd, hnd, hcase⟩ := lowest_succ hh
      have hq' : n - (k + 1) = q := by omega
      have HQ := Lib.hid hq'
      clear hh hq hq' HK
      have hc := H.out.cells x' nd hnd
      clear hnd
      generalize A x' = a at hc ⊢
      have c1 := cell_of hc 1
      have c2 := cell_of hc 2
      have c3 := cell_of hc 3
      have c4 := cell_of hc 4
      have c5 := cell_of hc 5
      have c6 := cell_of hc 6
      simp [tcells] at c1 c2 c3 c4 c5 c6
      clear hc
      rcases hcase with ⟨hd, ho⟩ | ⟨hd, x2, ht, hr⟩
      · have HO := Lib.hid ho
        clear ho
        match i' with
        | 0 =>
          rw [hd] at c4
          clear hd c1 c2 c3 c5 c6
          go_wp2
          go_ret2
          exact ⟨by rw [HO.out]; rfl, rfl⟩
        | 1 =>
          rw [hd] at c5
          clear hd c1 c2 c3 c4 c6
          go_wp2
          go_ret2
          exact ⟨by rw [HO.out]; rfl, rfl⟩
        | 2 =>
          rw [hd] at c6
          clear hd c1 c2 c3 c4 c5
          go_wp2
          go_ret2
          exact ⟨by rw [HO.out]; rfl, rfl⟩
      · have HR := Lib.hid hr
        clear hr
        match i' with
        | 0 =>
          rw [hd] at c4
          rw [ht] at c1
          simp only [pv] at c1
          clear hd ht c2 c3 c5 c6
          go_wp2
          go_round
          case rel => exact ⟨k + 1, x2, j', 0, by omega, rfl, rfl, rfl, by go_num, by rw [HQ.out]; exact HR.out⟩
          case measure => simp [intOf]; omega
        | 1 =>
          rw [hd] at c5
          rw [ht] at c2
          simp only [pv] at c2
          clear hd ht c1 c3 c4 c6
          go_wp2
          go_round
          case rel => exact ⟨k + 1, x2, j', 1, by omega, rfl, rfl, rfl, by go_num, by rw [HQ.out]; exact HR.out⟩
          case measure => simp [intOf]; omega
        | 2 =>
          rw [hd] at c6
          rw [ht] at c3
          simp only [pv] at c3
          clear hd ht c1 c2 c4 c5
          go_wp2
          go_round
          case rel => exact ⟨k + 1, x2, j', 2, by omega, rfl, rfl, rfl, by go_num, by rw [HQ.out]; exact HR.out⟩
          case measure => simp [intOf]; omega
    · have hkn : n - k = 0 := by omega
      have hh := HK.out
      rw [hkn] at hh
      have ho : o = some x' := by simp only [Cox.lowest] at hh; exact (Option.some.inj hh).symm
      have HO := Lib.hid ho
      clear ho hh hkn HK
      go_wp2
      go_ret2
      exact ⟨by rw [HO.out]; rfl, rfl⟩

/-- what a step does to the graph -/
structure Grows (w : World) (A : Nat → Nat) (st : List Tl) (w' : World) (A' : Nat → Nat) (st' : List Tl) : Prop where
  rep : Rep w' A' st'
  len : st.length ≤ st'.length
  old : ∀ k, k < st.length → A' k = A k
  new : ∀ k, st.length ≤ k → k < st'.length → w.heap.size ≤ A' k
  out : Out (In A st.length) w w'

theorem Grows.refl {w : World} {A : Nat → Nat} {st : List Tl} (h : Rep w A st) : Grows w A st w A st :=
  ⟨h, Nat.le_refl _, fun _ _ => rfl, fun k h1 h2 => by omega, Out.refl _ _⟩
theorem Grows.trans {w w' w'' : World} {A A' A'' : Nat → Nat} {st st' st'' : List Tl} (h : Grows w A st w' A' st') (g : Grows w' A' st' w'' A'' st'') : Grows w A st w'' A'' st'' where
  rep := g.rep
  len := Nat.le_trans h.len g.len
  old k hk := (g.old k (Nat.lt_of_lt_of_le hk h.len)).trans (h.old k hk)
  new k h1 h2 := by
    rcases Nat.lt_or_ge k st'.length with h3 | h3
    · rw [g.old k h3]; exact h.new k h1 h3
    · exact Nat.le_trans h.out.size (g.new k h3 h2)
  out := h.out.trans g.out (by
    rintro b ⟨k, hk, rfl⟩ hb
    rcases Nat.lt_or_ge k st.length with h3 | h3
    · exact ⟨k, h3, (h.old k h3).symm⟩
    · have := h.new k h3 hk; omega)

/-- the plane: the orders by pairs of mirrors, the first tile -/
def pcells (m : Fin 3 → Fin 3 → Nat) (F : Nat) : Array Value :=
  #[.int .i64 0, .int .i64 (m 0 1), .int .i64 (m 0 2), .int .i64 (m 1 0), .int .i64 0, .int .i64 (m 1 2), .int .i64 (m 2 0), .int .i64 (m 2 1), .int .i64 0, .pointer (some ⟨F, 0, none⟩)]

/-- a slice of one byte as a string -/
theorem conv_byte (i : Fin 3) (W : World) (a : Addr) (ha : a.spot = none) (h : W.cell? a = some (.int .u8 (i.val : Int))) :
    (convert 76 9 (.slice (some a) 1 1)).run Try.prog W = .ok (.string (wb [i])) W := by
  obtain ⟨b, o, sp⟩ := a
  subst ha
  have h' : ∀ j, j < 1 → W.cell? ⟨b, o + j, none⟩ = some (.int .u8 ([(i.val : Int)].getD j 0)) := by
    intro j hj
    have hj0 : j = 0 := by omega
    subst hj0
    exact h
  rw [run_convert_bytes_arg W 76 5 Try.underlying76 Try.underlying5 b o 1 1 [(i.val : Int)] rfl h' 9 Try.underlying9]
  rfl
theorem wb_size (l : List (Fin 3)) : (wb l).size = l.length := by simp [wb, ByteArray.size]
theorem wb_append (a b : List (Fin 3)) : wb a ++ wb b = wb (a ++ b) := by
  unfold wb
  rw [ByteArray.mk_append_mk, List.map_append]

/-- the contract of Step -/
def StepSaid (m : Fin 3 → Fin 3 → Nat) (f : Nat) : Prop := ∀ (A : Nat → Nat) (st : List Tl) (x : Nat) (s : Fin 3) (w : World) (st' : List Tl) (y p F : Nat), Rep w A st → x < st.length →
    w.heap[p]? = some (.cells (pcells m F) 65 (0, 0)) → ¬ In A st.length p → Cox.step m f st x s = some (st', y) →
    Calls Try.prog 44 #[.pointer (some ⟨p, 0, none⟩), .pointer (some ⟨A x, 0, none⟩), .int .i64 (s.val : Int)] w fun e w' =>
      ∃ A', e = .returned (.pointer (some ⟨A' y, 0, none⟩)) ∧ y < st'.length ∧ Grows w A st w' A' st'


end Go.Proofs.Ytlhmfaelkkiahaa
