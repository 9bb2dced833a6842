import Derived.Test.YtlhmfaelkkiahaaGrow0
namespace Go.Proofs.Ytlhmfaelkkiahaa
open Go.RowKit
open Cox (Tl)

def ext1 (A : Nat → Nat) (n b : Nat) : Nat → Nat := fun k => if k = n then b else A k
theorem ext1_new (A : Nat → Nat) (n b : Nat) : ext1 A n b n = b := by simp [ext1]
theorem ext1_old (A : Nat → Nat) {n k : Nat} (b : Nat) (h : k < n) : ext1 A n b k = A k := by simp [ext1]; omega

def newCells (l : List (Fin 3)) : Array Value := #[.string (wb l), .pointer none, .pointer none, .pointer none, .bool false, .bool false, .bool false]

/-- the new tile -/
theorem fresh_grows {A : Nat → Nat} {st : List Tl} {s : Fin 3} {w : World} {nd : Tl} (hr : Rep w A st) (n : Nat) :
    Grows w A st (((w.alloc (.cells #[.int .u8 n] 5)).alloc (.cells (newCells (nd.word ++ [s])) 75)).drew) (ext1 A st.length (w.heap.size + 1)) (st ++ [Cox.fresh nd s]) := by
  have hh : ∀ b, b < w.heap.size → (((w.alloc (.cells #[.int .u8 n] 5)).alloc (.cells (newCells (nd.word ++ [s])) 75)).drew).heap[b]? = w.heap[b]? := by
    intro b hb
    show ((w.heap.push _).push _)[b]? = _
    rw [Array.getElem?_push, if_neg (by simp; omega), Array.getElem?_push, if_neg (by omega)]
  have hnew : (((w.alloc (.cells #[.int .u8 n] 5)).alloc (.cells (newCells (nd.word ++ [s])) 75)).drew).heap[w.heap.size + 1]? = some (.cells (newCells (nd.word ++ [s])) 75 (0, 0)) := by
    show ((w.heap.push _).push _)[w.heap.size + 1]? = _
    rw [Array.getElem?_push, if_pos (by simp)]
  refine ⟨⟨?_, ?_, ?_⟩, by simp, fun k hk => ext1_old _ _ hk, ?_, ⟨rfl, rfl, rfl, ?_, fun b hb _ => hh b hb⟩⟩
  · intro k nk hk
    rcases Nat.lt_or_ge k st.length with h | h
    · rw [List.getElem?_append_left h] at hk
      rw [ext1_old _ _ h, hh _ (hr.lt h), hr.cells k nk hk]
      have : ∀ i, pv (ext1 A st.length (w.heap.size + 1)) (nk.to i) = pv A (nk.to i) := by
        intro i
        cases ht : nk.to i with
        | none => rfl
        | some b => simp only [pv]; rw [ext1_old _ _ (hr.closed k nk i b hk ht)]
      simp only [tcells, this]
    · have hke : k = st.length := by
        have := (List.getElem?_eq_some_iff.1 hk).1
        simp at this; omega
      subst hke
      simp at hk
      subst hk
      rw [ext1_new, hnew]; rfl
  · intro j k hj hk he
    simp at hj hk
    have ne : ∀ q, q < st.length → A q ≠ w.heap.size + 1 := fun q hq => by have := hr.lt hq; omega
    unfold ext1 at he
    split at he <;> split at he
    · omega
    · exact (ne k (by omega) he.symm).elim
    · exact (ne j (by omega) he).elim
    · exact hr.inj j k (by omega) (by omega) he
  · intro k nk i b hk hb
    rcases Nat.lt_or_ge k st.length with h | h
    · rw [List.getElem?_append_left h] at hk
      have := hr.closed k nk i b hk hb
      simp; omega
    · have hke : k = st.length := by
        have := (List.getElem?_eq_some_iff.1 hk).1
        simp at this; omega
      subst hke
      simp at hk
      subst hk
      cases hb
  · intro k h1 h2
    simp at h2
    have : k = st.length := by omega
    subst this
    rw [ext1_new]; omega
  · show w.heap.size ≤ ((w.heap.push _).push _).size
    simp; omega

theorem link_grows {w : World} {A : Nat → Nat} {st : List Tl} {w1 : World} {A1 : Nat → Nat} {st1 : List Tl} (g : Grows w A st w1 A1 st1) {x y : Nat} {s : Fin 3} (hx : x < st1.length) (hy : y < st1.length) (hxy : x ≠ y)
    {a b : Nat} (ha : A1 x = a) (hb : A1 y = b) :
    Calls Try.prog 46 #[.pointer (some ⟨a, 0, none⟩), .pointer (some ⟨b, 0, none⟩), .int .i64 (s.val : Int)] w1 fun e w' =>
      e = .returned (.tuple #[]) ∧ Grows w A st w' A1 (Cox.link st1 x y s) := by
  subst ha hb
  refine (link_any A1 st1 x y s w1 g.rep hx hy hxy).mono ?_
  rintro e w' ⟨h1, h2, h3⟩
  refine ⟨h1, g.trans ⟨h2, by rw [Cox.length_link]; omega, fun _ _ => rfl, fun k h1 h2 => ?_, h3⟩⟩
  rw [Cox.length_link] at h2; omega

theorem Grows.plane {w : World} {A : Nat → Nat} {st : List Tl} {w1 : World} {A1 : Nat → Nat} {st1 : List Tl} (g : Grows w A st w1 A1 st1) {p : Nat} {o : Obj} (hp : w.heap[p]? = some o) (hn : ¬ In A st.length p) :
    w1.heap[p]? = some o ∧ ¬ In A1 st1.length p := by
  have hl : p < w.heap.size := (Array.getElem?_eq_some_iff.1 hp).1
  refine ⟨by rw [g.out.block p hl hn]; exact hp, ?_⟩
  rintro ⟨k, hk, he⟩
  rcases Nat.lt_or_ge k st.length with h | h
  · exact hn ⟨k, h, by rw [← he, g.old k h]⟩
  · have := g.new k h hk; omega

theorem step_none {m : Fin 3 → Fin 3 → Nat} {f : Nat} {st : List Tl} {x y : Nat} {s : Fin 3} {nd : Tl} {st' : List Tl} (h : Cox.step m (f + 1) st x s = some (st', y)) (hn : st[x]? = some nd) (ht : nd.to s = none) :
    nd.word.length ≤ f ∧ y = st.length ∧ ∃ sa sb, Cox.round m f (Cox.step m f) (Cox.link (st ++ [Cox.fresh nd s]) x st.length s) x st.length s 0 = some sa ∧
      Cox.round m f (Cox.step m f) sa x st.length s 1 = some sb ∧ Cox.round m f (Cox.step m f) sb x st.length s 2 = some st' := by
  simp only [Cox.step, hn, Option.bind_some] at h
  have hlen : nd.word.length ≤ f := by
    rcases Nat.lt_or_ge f nd.word.length with h' | h'
    · rw [if_pos h'] at h; cases h
    · exact h'
  rw [if_neg (by omega), ht] at h
  simp only at h
  cases ha : Cox.round m f (Cox.step m f) (Cox.link (st ++ [Cox.fresh nd s]) x st.length s) x st.length s 0 with
  | none => rw [ha] at h; cases h
  | some sa =>
    rw [ha] at h
    simp only [Option.bind_some] at h
    cases hb : Cox.round m f (Cox.step m f) sa x st.length s 1 with
    | none => rw [hb] at h; cases h
    | some sb =>
      rw [hb] at h
      simp only [Option.bind_some] at h
      cases hc : Cox.round m f (Cox.step m f) sb x st.length s 2 with
      | none => rw [hc] at h; cases h
      | some sc =>
        rw [hc] at h
        simp only [Option.bind_some, Option.some.injEq, Prod.mk.injEq] at h
        obtain ⟨rfl, rfl⟩ := h
        exact ⟨hlen, rfl, sa, sb, rfl, hb, hc⟩

theorem less_wb (u v : List (Fin 3)) : Op.bytesLess (wb u).toList (wb v).toList = Cox.lex u v := by
  unfold wb
  rw [ByteArray.toList_mk, ByteArray.toList_mk]
  have e : ∀ i j : Fin 3, decide (UInt8.ofNat i.val < UInt8.ofNat j.val) = decide (i < j) ∧ (UInt8.ofNat i.val == UInt8.ofNat j.val) = decide (i = j) := by decide
  induction u generalizing v with
  | nil => cases v <;> rfl
  | cons a u ih => cases v with
    | nil => rfl
    | cons b v => simp only [List.map_cons, Op.bytesLess, Cox.lex, ih, (e a b).1, (e a b).2]

theorem word_grows {w : World} {A : Nat → Nat} {st : List Tl} {w1 : World} {A1 : Nat → Nat} {st1 : List Tl} (g : Grows w A st w1 A1 st1) {y : Nat} (hy : y < st1.length) (l : List (Fin 3)) {b : Nat} (hb : A1 y = b) :
    Grows w A st (w1.setCell ⟨b, 0, none⟩ (.string (wb l))) A1 (st1.modify y fun n => { n with word := l }) := by
  subst hb
  obtain ⟨ny, hny⟩ : ∃ nd, st1[y]? = some nd := ⟨_, List.getElem?_eq_getElem hy⟩
  have hc := g.rep.cells y ny hny
  have hh := fun k => heap_setCell w1 (A1 y) 0 (.string (wb l)) k hc
  refine g.trans ⟨⟨?_, ?_, ?_⟩, by simp, fun _ _ => rfl, fun k h1 h2 => ?_, ⟨rfl, rfl, rfl, by simp [World.setCell], fun k hk hn => ?_⟩⟩
  · intro k nd hk
    rw [Cox.modify_eq] at hk
    rw [hh]
    by_cases e : k = y
    · subst e
      rw [if_pos rfl, hny] at hk
      cases hk
      rw [if_pos rfl]; rfl
    · rw [if_neg e] at hk
      have hkl : k < st1.length := (List.getElem?_eq_some_iff.1 hk).1
      rw [if_neg (fun q => e (g.rep.inj k y hkl hy q))]
      exact g.rep.cells k nd hk
  · intro j k hj hk
    simp at hj hk
    exact g.rep.inj j k hj hk
  · intro k nd i b hk hb
    rw [Cox.modify_eq] at hk
    simp
    by_cases e : k = y
    · subst e
      rw [if_pos rfl, hny] at hk
      cases hk
      exact g.rep.closed k ny i b hny hb
    · rw [if_neg e] at hk
      exact g.rep.closed k nd i b hk hb
  · simp at h2; omega
  · rw [hh, if_neg (fun e => hn ⟨y, hy, e.symm⟩)]

/-- the lowest tile is one of the graph -/
theorem lowest_lt {w : World} {A : Nat → Nat} {st : List Tl} (h : Rep w A st) {x v : Nat} {i j : Fin 3} {n : Nat} (hl : Cox.lowest st x i j n = some (some v)) (hx : x < st.length) : v < st.length := by
  induction n generalizing x i j with
  | zero => simp only [Cox.lowest, Option.some.injEq] at hl; subst hl; exact hx
  | succ n ih =>
    obtain ⟨nd, h1, h2⟩ := lowest_succ hl
    rcases h2 with ⟨_, h2⟩ | ⟨_, x', h2, h3⟩
    · cases h2
    · exact ih h3 (h.closed x nd i x' h1 h2)

theorem alloc_grows {w : World} {A : Nat → Nat} {st : List Tl} {w1 : World} {A1 : Nat → Nat} {st1 : List Tl} (g : Grows w A st w1 A1 st1) (o : Obj) : Grows w A st (w1.alloc o).drew A1 st1 := by
  have hh : ∀ b, b < w1.heap.size → ((w1.alloc o).drew).heap[b]? = w1.heap[b]? := by
    intro b hb
    show (w1.heap.push _)[b]? = _
    rw [Array.getElem?_push, if_neg (by omega)]
  refine g.trans ⟨⟨?_, g.rep.inj, g.rep.closed⟩, Nat.le_refl _, fun _ _ => rfl, fun k h1 h2 => by omega, ⟨rfl, rfl, rfl, ?_, fun b hb _ => hh b hb⟩⟩
  · intro k nk hk
    rw [hh _ (g.rep.lt (List.getElem?_eq_some_iff.1 hk).1)]
    exact g.rep.cells k nk hk
  · show w1.heap.size ≤ (w1.heap.push _).size
    simp
end Go.Proofs.Ytlhmfaelkkiahaa
