/- Chapter 10: Shut. -/
import Derived.Test.YtkndmibmmoikbaaD07
import Derived.Test.YtkndmibmmoikbaaRows
import Derived.ProofKit
import Derived.Lib.SmallJoins
import Derived.ChangeMaps5
set_option linter.all false
set_option maxRecDepth 100000
set_option maxHeartbeats 16000000
namespace Go.Proofs.Ytkndmibmmoikbaa
open Go.ChangeShapes Go.WideShapes Go.ChangeAt Go.RowKit Go.ChangeMaps Go.Joins
theorem Try.own : ownKnob Try.prog.godebug = none := by kernel_rfl
theorem Try.cells23 : Try.prog.cellsOf 23 = 3 := by kernel_rfl
section
variable {H : Type} {enc : TypeId × Value → H}
theorem open_orders {W : World} {base b0 : Nat} {sp : Nat → Bool} {held : Bool} {r : Reach} {v : Value} {d : DataW H} {p : List MemPlace} (hv : Value.okWide Try.prog W r b0 23 v) (h : DataW.Trod enc Try.prog W base sp held 23 v d p) :
 ∃ a b c : Int, v = oval a b c ∧ d = .agg [.lit (.int .i64 a), .lit (.int .i64 b), .lit (.int .i64 c)] ∧ p = [] ∧ (Lit.int .i64 a).wf = true ∧ (Lit.int .i64 b).wf = true ∧ (Lit.int .i64 c).wf = true := by
 obtain ⟨c0, c1, c2, y0, y1, y2, m, rfl, rfl, rfl, hy0, hy1, hy2⟩ := open_agg3 Try.underlying23 (by kernel_rfl) Try.cells23 hv h
 obtain ⟨x, e0, rfl, wx⟩ := DataW.trod_int Try.underlying3 hy0
 obtain ⟨y, e1, rfl, wy⟩ := DataW.trod_int Try.underlying3 hy1
 obtain ⟨z, e2, rfl, wz⟩ := DataW.trod_int Try.underlying3 hy2
 simp at e0 e1 e2
 subst e0 e1 e2
 exact ⟨x, y, z, rfl, rfl, rfl, wx, wy, wz⟩
theorem shut_orders {W : World} {base : Nat} {sp : Nat → Bool} {held : Bool} {a b c : Int} (wa : (Lit.int .i64 a).wf = true) (wb : (Lit.int .i64 b).wf = true) (wc : (Lit.int .i64 c).wf = true) :
 DataW.Trod enc Try.prog W base sp held 23 (oval a b c) (.agg [.lit (.int .i64 a), .lit (.int .i64 b), .lit (.int .i64 c)]) [] := by
 have h := shut_agg3 (enc := enc) (P := Try.prog) (w := W) (base := base) (spare := sp) (held := held) (v0 := .int .i64 a) (v1 := .int .i64 b) (v2 := .int .i64 c) (y0 := (.lit (.int .i64 a), [])) (y1 := (.lit (.int .i64 b), [])) (y2 := (.lit (.int .i64 c), [])) Try.underlying23 (by kernel_rfl) Try.cells23
  ⟨1, by simp [DataW.trod, Try.underlying3, wa]⟩ ⟨1, by simp [DataW.trod, Try.underlying3, wb]⟩ ⟨1, by simp [DataW.trod, Try.underlying3, wc]⟩
 exact h
end
end Go.Proofs.Ytkndmibmmoikbaa
