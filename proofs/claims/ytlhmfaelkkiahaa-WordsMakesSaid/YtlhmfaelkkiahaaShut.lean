import Derived.Test.YtlhmfaelkkiahaaLaw1
import Derived.Test.YtlhmfaelkkiahaaRows
import Derived.ProofKit
import Derived.Lib.SmallJoins
import Derived.ChangeMaps5
namespace Go.Proofs.Ytlhmfaelkkiahaa
open Go.ChangeShapes Go.WideShapes Go.ChangeAt Go.RowKit Go.ChangeMaps Go.Joins

theorem Try.own : ownKnob Try.prog.godebug = none := by kernel_rfl
theorem Try.cells23 : Try.prog.cellsOf 23 = 3 := by kernel_rfl

section
variable {H : Type} {enc : TypeId × Value → H}

/-- a law's end: it has returned true, no block that stood before has turned, nothing is shared with the arguments -/
theorem law_post {f : Func} {s : ChangeSpec} {W W' : World} {args : Array Value} {ds : List (DataW H)}
    (hW : DataW.Whole enc Try.prog f.params.toList s.vars false W args.toList ds [] []) (hv : s.vars = [])
    (hft : f.resultTypes = #[4]) (hrs : (s.fn H (ds ++ [])).results = [.lit (.bool true)])
    (hargs : ∀ sp : Nat → Bool, DataW.TrodAll enc Try.prog W' 0 sp true f.params.toList args.toList (s.fn H (ds ++ [])).args [])
    (hvars : (s.fn H (ds ++ [])).vars = []) (hb : Below W.heap.size W W') : s.post enc Try.prog f false true false false W args (.bool true) W' := by
  have hres : ∀ (b : Nat) (sp : Nat → Bool) (hd : Bool), DataW.TrodAll enc Try.prog W' b sp hd f.resultTypes.toList ((Value.bool true).resultList f.resultTypes.size) (s.fn H (ds ++ [])).results [] := by
    intro b sp hd
    rw [hft, hrs]
    exact trodAll_mk1 (shut_bool Try.underlying4 _)
  have hvs : ∀ sp : Nat → Bool, DataW.TrodVars enc Try.prog W' sp s.vars (s.fn H (ds ++ [])).vars [] := by
    intro sp
    rw [hv, hvars]
    rfl
  exact ⟨ds, [], [], [], [], [], hW, hres _ _ _, hargs _, hvs _, hb.frame _, fun h => by cases h⟩

/-- the orders, read -/
theorem open_orders {W : World} {base b0 : Nat} {sp : Nat → Bool} {held : Bool} {r : Reach} {v : Value} {d : DataW H} {p : List MemPlace} (hv : Value.okWide Try.prog W r b0 23 v) (h : DataW.Trod enc Try.prog W base sp held 23 v d p) :
    ∃ a b c : Int, v = oval a b c ∧ d = .agg [.lit (.int .i64 a), .lit (.int .i64 b), .lit (.int .i64 c)] ∧ p = [] ∧ (Lit.int .i64 a).wf = true ∧ (Lit.int .i64 b).wf = true ∧ (Lit.int .i64 c).wf = true := by
  obtain ⟨c0, c1, c2, y0, y1, y2, m, rfl, rfl, rfl, hy0, hy1, hy2⟩ := open_agg3 Try.underlying23 (by kernel_rfl) Try.cells23 hv h
  obtain ⟨x, e0, rfl, wx⟩ := DataW.trod_int Try.underlying3 hy0
  obtain ⟨y, e1, rfl, wy⟩ := DataW.trod_int Try.underlying3 hy1
  obtain ⟨z, e2, rfl, wz⟩ := DataW.trod_int Try.underlying3 hy2
  simp at e0 e1 e2
  subst e0 e1 e2
  exact ⟨x, y, z, rfl, rfl, rfl, wx, wy, wz⟩
theorem shut_orders {W : World} {base : Nat} {sp : Nat → Bool} {held : Bool} {a b c : Int} (wa : (Lit.int .i64 a).wf = true) (wb : (Lit.int .i64 b).wf = true) (wc : (Lit.int .i64 c).wf = true) :
    DataW.Trod enc Try.prog W base sp held 23 (oval a b c) (.agg [.lit (.int .i64 a), .lit (.int .i64 b), .lit (.int .i64 c)]) [] := by
  have h := shut_agg3 (enc := enc) (P := Try.prog) (w := W) (base := base) (spare := sp) (held := held) (v0 := .int .i64 a) (v1 := .int .i64 b) (v2 := .int .i64 c) (y0 := (.lit (.int .i64 a), [])) (y1 := (.lit (.int .i64 b), [])) (y2 := (.lit (.int .i64 c), [])) Try.underlying23 (by kernel_rfl) Try.cells23
    ⟨1, by simp [DataW.trod, Try.underlying3, wa]⟩ ⟨1, by simp [DataW.trod, Try.underlying3, wb]⟩ ⟨1, by simp [DataW.trod, Try.underlying3, wc]⟩
  exact h
end

end Go.Proofs.Ytlhmfaelkkiahaa
