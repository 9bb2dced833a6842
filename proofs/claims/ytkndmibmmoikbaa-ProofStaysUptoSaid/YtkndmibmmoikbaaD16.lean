/- Chapter 10: Pi0. -/
import Derived.Test.YtkndmibmmoikbaaProg
import Derived.RangeFuncNested
import Derived.RangeFuncBound
import Derived.RangeFuncCalls
import Derived.RangeFuncLeaves
import Derived.WalkKit
import Derived.OwnWalkIn
import Derived.TacticsInMore
import Derived.LoopNIn
import Derived.LoopIn
set_option linter.all false
set_option maxRecDepth 100000
set_option maxHeartbeats 16000000
namespace Go.Proofs.Ytkndmibmmoikbaa
open Go.RowKit
def roundLeft {X : Type} (I : X → World → Prop) (Ix : World → Prop) (x : X) (W : World) : Exit → Act → World → Prop
 | .normal, _, W' => KeepsOthers W W' ∧ I x W'
 | .ret, _, W' => KeepsOthers W W' ∧ Ix W'
 | _, _, _ => False
theorem range_iter {F : Fence} {n : Nat} {P : Program} {X : Type} {g : Operand} {ps : Array Tmp} {assign body : Code} {Q : Exit → Act → World → Prop} {a : Act} {w : World} {gf : Nat} {lb : Array Value}
 (hro : F.round = none) (h1 : 1 ≤ n) (hg : a.eval g = .func (.func gf) #[] lb) (hFg : F.fn gf) (eg : ∀ args w, (callFunc gf args).run P w = .ok (.enter gf args) w)
 (encs : X → Array Value) (hps : ∀ x, (encs x).size = ps.size) (Ib I : X → World → Prop) (I0 Id Ix : World → Prop)
 (hI : ∀ x W l o', w.heap.size ≤ l → (∃ r, W.heap[l]? = some (.loop r)) → I x W → I x (W.putObj l o'))
 (hId : ∀ W l o', w.heap.size ≤ l → (∃ r, W.heap[l]? = some (.loop r)) → Id W → Id (W.putObj l o'))
 (hIx : ∀ W l o', w.heap.size ≤ l → (∃ r, W.heap[l]? = some (.loop r)) → Ix W → Ix (W.putObj l o'))
 (h0 : ∀ r, I0 ((w.alloc (.deferred (some []))).alloc (.loop r))) (Ia : X → Act → World → Prop)
 (hIa : ∀ x a₁ W l o', w.heap.size ≤ l → (∃ r, W.heap[l]? = some (.loop r)) → Ia x a₁ W → Ia x a₁ (W.putObj l o'))
 (hassign : ∀ (l : Nat) (x : X) (W : World) (K : Act → World → Prop), Ib x W → (∀ a₁ W1, KeepsOthers W W1 → Ia x a₁ W1 → K a₁ W1) →
   assign.wpIn (F.inRound l) (n - 1 - 1) P (Exit.then K (fun _ _ _ => False)) { tmps := (ps.zip (encs x)).foldl (fun t (p, v) => t.setIfInBounds p v) a.tmps, defers := [] } W)
 (hbody : ∀ (l : Nat) (x : X) (a₁ : Act) (W : World), Ia x a₁ W → body.wpIn (F.inRound l) (n - 1 - 1) P (roundLeft I Ix x W) a₁ W)
 (hiter : ∀ (l : Nat) (W : World) (RR RX : World → Prop), (∀ A B, KeepsOthers A B → RR A → RR B) → (∀ A B, KeepsOthers A B → RX A → RX B) → I0 W → RR W → w.heap.size < l → l < W.heap.size →
   (∀ x W1, Ib x W1 → RR W1 → YieldAt F (n - 1 - 1) P l (encs x) W1 fun e W' => (e = .returned (.bool true) ∧ I x W' ∧ RR W') ∨ (e = .returned (.bool false) ∧ Ix W' ∧ RX W')) →
   CallsIn F (n - 1) P gf (#[.func (.yield l) #[] #[]] ++ lb) W fun e W' => (∃ v, e = .returned v) ∧ ((Id W' ∧ RR W') ∨ (Ix W' ∧ RX W')))
 (hdone : ∀ (D : Nat) (W : World), w.heap.size ≤ D → Id W → W.heap[D]? = some (.deferred (some [])) → Q .normal { a with defers := { target := .collected D, args := #[] } :: a.defers } W)
 (hstop : ∀ (D : Nat) (W : World), w.heap.size ≤ D → Ix W → W.heap[D]? = some (.deferred (some [])) → Code.ret.wpIn F n P Q { a with defers := { target := .collected D, args := #[] } :: a.defers } W) :
 (Code.rangeFunc g ps assign body).wpIn F n P Q a w := by
 refine wpIn_rangeFunc ?_
 intro fn hfn
 rw [hro]
 obtain ⟨rec, hrec⟩ : ∃ rec : LoopState → Option Code → Loop, rec = fun st pe => { state := st, pending := pe, fn, tmps := a.tmps, params := ps, assign, body, defers := w.heap.size } := ⟨_, rfl⟩
 obtain ⟨W1, hW1⟩ : ∃ W1, (w.alloc (.deferred (some []))).alloc (.loop (rec .ready none)) = W1 := ⟨_, rfl⟩
 have hL1 : W1.heap[w.heap.size + 1]? = some (.loop (rec .ready none)) := by
  rw [← hW1]
  have := World.alloc_heap_new (w.alloc (.deferred (some []))) (.loop (rec .ready none))
  rwa [World.size_alloc] at this
 have hK1 : W1.heap[w.heap.size]? = some (.deferred (some [])) := by
  rw [← hW1]; exact (Below.heap_alloc _ _ _ (by simp)).trans (World.alloc_heap_new w _)
 have hlt1 : w.heap.size + 1 < W1.heap.size := (Array.getElem?_eq_some_iff.1 hL1).1
 refine ⟨w.heap.size + 1, [{ target := .collected w.heap.size, args := #[] }], W1, { target := .fn (.func gf) lb, args := #[.func (.yield (w.heap.size + 1)) #[] #[]] }, W1, gf,
  #[.func (.yield (w.heap.size + 1)) #[] #[]] ++ lb, W1, ?_, ?_, ?_, ?_, fun _ => h1, ?_⟩
 · rw [← hW1, hrec]; exact run_enterLoop_outer _ _ _ _ _
 · simp only [resolve, hg]
   simp [go_sem]
 · intro f' hf'; simp [Target.leads] at hf'; subst hf'; exact hFg
 · simp [invoke, go_sem, eg]
 · refine (hiter (w.heap.size + 1) W1
    (fun W => W.heap[w.heap.size + 1]? = some (.loop (rec .ready none)) ∧ W.heap[w.heap.size]? = some (.deferred (some [])))
    (fun W => W.heap[w.heap.size + 1]? = some (.loop (rec .done (some .ret))) ∧ W.heap[w.heap.size]? = some (.deferred (some [])))
    (fun A B hk h => ⟨hk.same _ _ h.1 rfl, hk.same _ _ h.2 rfl⟩) (fun A B hk h => ⟨hk.same _ _ h.1 rfl, hk.same _ _ h.2 rfl⟩)
    (by rw [← hW1]; exact h0 _) ⟨hL1, hK1⟩ (by omega) hlt1 ?_).mono ?_
   · rintro x W hi ⟨hl, hk⟩
     have hy := run_yield (P := P) (args := encs x) hl (by rw [hrec]; exact hps x)
     rw [hrec] at hy
     refine ⟨fn, _, assign, body, hy, roundIn_of_wpIn hfn (hassign _ x W _ hi (fun a₁ Wa hka hia => ?_))⟩
     have hla := hka.same _ _ hl rfl
     refine ⟨_, run_beginRound hla (by rw [hrec]), ?_⟩
     have hkk := hka.same _ _ hk rfl
     have hlt : w.heap.size + 1 < Wa.heap.size := (Array.getElem?_eq_some_iff.1 hla).1
     have hl2 : (Wa.putObj (w.heap.size + 1) (.loop { rec .ready none with state := .busy })).heap[w.heap.size + 1]? = some (.loop { rec .ready none with state := .busy }) := World.putObj_heap_same hlt
     have hk2 : (Wa.putObj (w.heap.size + 1) (.loop { rec .ready none with state := .busy })).heap[w.heap.size]? = some (.deferred (some [])) := (World.putObj_heap_other (by omega)).trans hkk
     refine wpIn_mono (hbody _ x _ _ (hIa x _ _ _ _ (by omega) ⟨_, hla⟩ hia)) ?_
     have fin : ∀ (jump : Option Code) (W3 : World), KeepsOthers (Wa.putObj (w.heap.size + 1) (.loop { rec .ready none with state := .busy })) W3 →
      (Instr.endRound (w.heap.size + 1) jump).run P W3 = .ok (.bool jump.isNone) (W3.putObj (w.heap.size + 1) (.loop (rec (if jump.isNone then .ready else .done) jump))) ∧
      W3.heap[w.heap.size + 1]? = some (.loop { rec .ready none with state := .busy }) ∧
      (W3.putObj (w.heap.size + 1) (.loop (rec (if jump.isNone then .ready else .done) jump))).heap[w.heap.size + 1]? = some (.loop (rec (if jump.isNone then .ready else .done) jump)) ∧
      (W3.putObj (w.heap.size + 1) (.loop (rec (if jump.isNone then .ready else .done) jump))).heap[w.heap.size]? = some (.deferred (some [])) := fun jump W3 hk3 => by
      have hl3 := hk3.same _ _ hl2 rfl
      have := run_endRound (P := P) jump hl3
      rw [hrec] at this ⊢
      exact ⟨this, by rw [hrec] at hl3; exact hl3, World.putObj_heap_same (Array.getElem?_eq_some_iff.1 hl3).1, (World.putObj_heap_other (by omega)).trans (hk3.same _ _ hk2 rfl)⟩
     rintro e a3 W3 hp
     cases e with
     | normal =>
      obtain ⟨hk3, hi3⟩ := hp
      obtain ⟨hr, hl3, hl4, hk4⟩ := fin none W3 hk3
      exact ⟨_, _, hr, .inl ⟨rfl, hI x _ _ _ (by omega) ⟨_, hl3⟩ hi3, hl4, hk4⟩⟩
     | ret =>
      obtain ⟨hk3, hi3⟩ := hp
      obtain ⟨hr, hl3, hl4, hk4⟩ := fin (some .ret) W3 hk3
      exact ⟨_, _, hr, .inr ⟨rfl, hIx _ _ _ (by omega) ⟨_, hl3⟩ hi3, hl4, hk4⟩⟩
     | exit id => exact hp.elim
     | goto t => exact hp.elim
     | panic ch => exact hp.elim
     | outgrown => exact hp.elim
   · rintro e W2 ⟨⟨v, rfl⟩, (⟨hi, hl, hk⟩ | ⟨hi, hl, hk⟩)⟩
     · exact ⟨none, _, by have := run_endLoop (P := P) hl (by rw [hrec]; simp); rw [hrec] at this; exact this, hdone _ _ (Nat.le_refl _) (hId _ _ _ (by omega) ⟨_, hl⟩ hi) ((World.putObj_heap_other (by omega)).trans hk)⟩
     · exact ⟨some .ret, _, by have := run_endLoop (P := P) hl (by rw [hrec]; simp); rw [hrec] at this; exact this, hstop _ _ (Nat.le_refl _) (hIx _ _ _ (by omega) ⟨_, hl⟩ hi) ((World.putObj_heap_other (by omega)).trans hk)⟩
end Go.Proofs.Ytkndmibmmoikbaa
