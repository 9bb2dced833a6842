/- Chapter 10: Mp. -/
import Derived.Maps.Keyed
import Derived.LaidEqlPtr
set_option linter.all false
set_option maxRecDepth 100000
set_option maxHeartbeats 16000000
namespace Go.Proofs.Ytkndmibmmoikbaa.Mp
open Go
section
variable {P : Program}
noncomputable def fnd (k : Value) : List MapEntry → Nat → Option (Nat × Value)
 | [], _ => none
 | e :: es, i => @ite _ (e.key = k) (Classical.propDecidable _) (some (i, e.val)) (fnd k es (i + 1))
theorem fnd_some {k : Value} : ∀ (es : List MapEntry) (i j : Nat) (v : Value), fnd k es i = some (j, v) → i ≤ j ∧ ∃ e, es[j - i]? = some e ∧ e.key = k ∧ e.val = v := by
 intro es
 induction es with
 | nil => intro i j v h; cases h
 | cons e es ih =>
  intro i j v h
  unfold fnd at h
  split at h
  · rename_i he
    simp only [Option.some.injEq, Prod.mk.injEq] at h
    obtain ⟨rfl, rfl⟩ := h
    exact ⟨Nat.le_refl _, e, by simp, he, rfl⟩
  · obtain ⟨h1, e', h2, h3⟩ := ih (i + 1) j v h
    refine ⟨by omega, e', ?_, h3⟩
    obtain ⟨d, hd⟩ : ∃ d, j - i = d + 1 := ⟨j - i - 1, by omega⟩
    have h4 : j - (i + 1) = d := by omega
    rw [h4] at h2
    rw [hd, List.getElem?_cons_succ]; exact h2
structure Kin (P : Program) (kt : TypeId) (w : World) (D : Value → Prop) : Prop where
 kind : ∃ d, P.underlying kt = some d ∧ ∀ a b, D a → D b → Instr.sameNow d a b = none
 same : ∀ a, D a → (Op.equal kt a a).run P w = .ok true w
 other : ∀ a b, D a → D b → a ≠ b → (Op.equal kt a b).run P w = .ok false w
 check : ∀ a, D a → ∀ e, (Instr.checkKey e 10000 kt a).run P w = .ok () w
 bits : ∀ a, D a → Instr.sameBits 10000 a a = true
variable {kt mt et : TypeId} {w : World} {D : Value → Prop}
theorem Kin.asking (K : Kin P kt w D) {k : Value} (hk : D k) : ∀ (es : List MapEntry) (i : Nat), (∀ e ∈ es, D e.key) → (Instr.findAsking kt k es i).run P w = .ok (fnd k es i) w := by
 intro es
 induction es with
 | nil => intro i _; simp [Instr.findAsking, fnd]
 | cons e es ih =>
  intro i h
  have he := h e (by simp)
  have ih' := ih (i + 1) (fun x hx => h x (by simp [hx]))
  by_cases hek : e.key = k
  · have hs := K.same k hk
    unfold fnd
    rw [if_pos hek]
    unfold Instr.findAsking
    rw [hek]
    simp [hs, Result.andThen]
  · have ho := K.other k e.key hk he (fun h => hek h.symm)
    unfold fnd
    rw [if_neg hek]
    unfold Instr.findAsking
    simp [ho, Result.andThen, ih']
theorem Kin.find (K : Kin P kt w D) {k : Value} (hk : D k) (es : List MapEntry) (h : ∀ e ∈ es, D e.key) : (Instr.findKey kt k es).run P w = .ok (fnd k es 0) w := by
 obtain ⟨d, hd, hn⟩ := K.kind
 have hask := K.asking hk es 0 h
 cases es with
 | nil => simp [Instr.findKey, run_underlying hd, Instr.findNow, Result.andThen, fnd]
 | cons e es =>
  have h1 : Instr.findNow d k (e :: es) 0 = none := by
   unfold Instr.findNow
   rw [hn k e.key hk (h e (by simp))]
  simp [Instr.findKey, run_underlying hd, h1, Result.andThen, hask]
theorem Kin.lookup_yes (K : Kin P kt w D) (ht : P.underlying mt = some (.map kt et)) {r : Nat} {es : Array MapEntry} {clock : Nat} (hb : w.heap[r]? = some (.map es clock)) (he : ∀ e ∈ es.toList, D e.key) {k : Value} (hk : D k) {j : Nat} {v : Value} (hf : fnd k es.toList 0 = some (j, v)) (c : Bool) :
 (Instr.lookup mt (.map (some r)) k c).run P w = .ok (if c then .tuple #[v, .bool true] else v) w := by
 have h1 := K.find hk es.toList he
 rw [hf] at h1
 simp [Instr.lookup, run_underlying ht, MapKept.run_getObj_map hb, K.check _ hk, h1, Result.andThen]
theorem Kin.lookup_no (K : Kin P kt w D) (ht : P.underlying mt = some (.map kt et)) {r : Nat} {es : Array MapEntry} {clock : Nat} (hb : w.heap[r]? = some (.map es clock)) (he : ∀ e ∈ es.toList, D e.key) {k : Value} (hk : D k) {z : Value} (hz : (zeroValue et).run P w = .ok z w) (hf : fnd k es.toList 0 = none) (c : Bool) :
 (Instr.lookup mt (.map (some r)) k c).run P w = .ok (if c then .tuple #[z, .bool false] else z) w := by
 have h1 := K.find hk es.toList he
 rw [hf] at h1
 simp [Instr.lookup, run_underlying ht, MapKept.run_getObj_map hb, K.check _ hk, h1, hz, Result.andThen]
theorem Kin.update_new (K : Kin P kt w D) (ht : P.underlying mt = some (.map kt et)) {r : Nat} {es : Array MapEntry} {clock : Nat} (hb : w.heap[r]? = some (.map es clock)) (he : ∀ e ∈ es.toList, D e.key) {k : Value} (hk : D k) (hf : fnd k es.toList 0 = none) (v : Value) :
 (Instr.mapUpdate mt (.map (some r)) k v).run P w = .ok () { w with heap := w.heap.setIfInBounds r (.map (es.push { key := k, val := v, born := clock }) (clock + 1)) } := by
 have h1 := K.find hk es.toList he
 rw [hf] at h1
 simp [Instr.mapUpdate, run_underlying ht, MapKept.run_getObj_map hb, K.check _ hk, h1, MapKept.run_setObj_map _ hb, Result.andThen]
theorem Kin.update_old (K : Kin P kt w D) (ht : P.underlying mt = some (.map kt et)) {r : Nat} {es : Array MapEntry} {clock : Nat} (hb : w.heap[r]? = some (.map es clock)) (he : ∀ e ∈ es.toList, D e.key) {k : Value} (hk : D k) {j : Nat} {u : Value} (hf : fnd k es.toList 0 = some (j, u)) (v : Value) :
 (Instr.mapUpdate mt (.map (some r)) k v).run P w = .ok () { w with heap := w.heap.setIfInBounds r (.map (es.modify j fun e => { e with key := k, val := v }) clock) } := by
 have h1 := K.find hk es.toList he
 rw [hf] at h1
 obtain ⟨_, e, h2, h3, h4⟩ := fnd_some es.toList 0 j u hf
 have h5 : (es[j]?).map (·.key) = some k := by
  have : es[j]? = some e := by simpa using h2
  rw [this]; simp [h3]
 have h6 : ((es[j]?).map (·.key)).getD k = k := by rw [h5]; rfl
 have h7 : (Instr.keyThatStays k k).run P w = .ok k w := by simp [Instr.keyThatStays, K.bits _ hk]
 simp [Instr.mapUpdate, run_underlying ht, MapKept.run_getObj_map hb, K.check _ hk, h1, h6, h7, MapKept.run_setObj_map _ hb, Result.andThen]
/-! ### keys that are pointers to blocks that stand -/
theorem equal_ptr_same {tp te : TypeId} {j : TypeInfo} (w : World) (a : Addr) (hp : P.underlying tp = some (.pointer te)) (hte : P.info? te = some j) : (Op.equal tp (.pointer (some a)) (.pointer (some a))).run P w = .ok true w := by
 have h : ∀ d : Nat, (Op.equalIn (d + 1) tp (.pointer (some a)) (.pointer (some a))).run P w = .ok true w := fun d => by
  simp [Op.equalIn, run_underlying hp, sizeOf, typeInfo, hte, run_sameAddr_same]
 simp [Op.equal, Op.maxDepth, h 9999]
theorem equal_ptr_other {tp te : TypeId} {j : TypeInfo} (w : World) {a b : Addr} {ca cb : Array Value} {ta tb : TypeId} (hp : P.underlying tp = some (.pointer te)) (hte : P.info? te = some j) (hsz : j.size ≠ 0)
 (hne : a ≠ b) (ha : w.heap[a.block]? = some (.cells ca ta (0, 0))) (hb : w.heap[b.block]? = some (.cells cb tb (0, 0))) : (Op.equal tp (.pointer (some a)) (.pointer (some b))).run P w = .ok false w := by
 have h : ∀ d : Nat, (Op.equalIn (d + 1) tp (.pointer (some a)) (.pointer (some b))).run P w = .ok false w := fun d => by
  simp [Op.equalIn, run_underlying hp, sizeOf, typeInfo, hte, hsz, run_sameAddr_other w hne ha hb]
 simp [Op.equal, Op.maxDepth, h 9999]
def PtrKey (w : World) (v : Value) : Prop := ∃ (b : Nat) (cs : Array Value) (T : TypeId), v = .pointer (some ⟨b, 0, none⟩) ∧ w.heap[b]? = some (.cells cs T (0, 0))
theorem ptr_kin {tp te : TypeId} {j : TypeInfo} (w : World) (hp : P.underlying tp = some (.pointer te)) (hte : P.info? te = some j) (hsz : j.size ≠ 0) : Kin P tp w (PtrKey w) where
 kind := ⟨_, hp, fun a b _ _ => rfl⟩
 same := by
  rintro a ⟨b, cs, T, rfl, _⟩
  exact equal_ptr_same w _ hp hte
 other := by
  rintro a b ⟨x, cx, Tx, rfl, hx⟩ ⟨y, cy, Ty, rfl, hy⟩ hne
  refine equal_ptr_other w hp hte hsz (fun e => hne (by rw [e])) hx hy
 check := by
  rintro a ⟨b, cs, T, rfl, _⟩ e
  have h : ∀ n : Nat, (Instr.checkKey e (n + 1) tp (.pointer (some ⟨b, 0, none⟩))).run P w = .ok () w := fun n => by
   simp [Instr.checkKey, run_underlying hp]
  exact h 9999
 bits := by
  rintro a ⟨b, cs, T, rfl, _⟩
  unfold Instr.sameBits
  exact beq_self_eq_true _
def PairKey (w : World) (v : Value) : Prop := ∃ (p : Value) (n : Int), v = .agg #[p, .int .i64 n] ∧ PtrKey w p
theorem pair_kin {tk tp te ti : TypeId} {j : TypeInfo} {f0 f1 : Field} (w : World) (hk : P.underlying tk = some (.struct #[f0, f1])) (h0 : f0.type = tp) (h1 : f1.type = ti) (o0 : f0.offset = 0) (o1 : f1.offset = 1) (n0 : f0.name ≠ "_") (n1 : f1.name ≠ "_") (hst : P.stoodInHeld tk = false)
 (hp : P.underlying tp = some (.pointer te)) (hi : P.underlying ti = some (.int .i64)) (hte : P.info? te = some j) (hsz : j.size ≠ 0) : Kin P tk w (PairKey w) := by
 subst h0 h1
 have eqp : ∀ (d : Nat) (b : Nat), (Op.equalIn (d + 1) f0.type (.pointer (some ⟨b, 0, none⟩)) (.pointer (some ⟨b, 0, none⟩))).run P w = .ok true w := fun d b => by
  simp [Op.equalIn, run_underlying hp, sizeOf, typeInfo, hte, run_sameAddr_same]
 have eqn : ∀ (d : Nat) (n m : Int), (Op.equalIn (d + 1) f1.type (.int .i64 n) (.int .i64 m)).run P w = .ok (n == m) w := fun d n m => by
  simp [Op.equalIn, run_underlying hi]
 refine ⟨⟨_, hk, fun a b _ _ => rfl⟩, ?_, ?_, ?_, ?_⟩
 · rintro a ⟨p, n, rfl, b, cs, T, rfl, _⟩
   have h : ∀ d : Nat, (Op.equalIn (d + 2) tk (.agg #[.pointer (some ⟨b, 0, none⟩), .int .i64 n]) (.agg #[.pointer (some ⟨b, 0, none⟩), .int .i64 n])).run P w = .ok true w := fun d => by
    unfold Op.equalIn
    simp [run_underlying hk, hst, n0, n1, o0, o1, part, isAgg, run_underlying hp, run_underlying hi, eqp, eqn]
   simp [Op.equal, Op.maxDepth, h 9998]
 · rintro a c ⟨p, n, rfl, b, cs, T, rfl, hb⟩ ⟨q, m, rfl, b', cs', T', rfl, hb'⟩ hne
   have h : ∀ d : Nat, (Op.equalIn (d + 2) tk (.agg #[.pointer (some ⟨b, 0, none⟩), .int .i64 n]) (.agg #[.pointer (some ⟨b', 0, none⟩), .int .i64 m])).run P w = .ok false w := fun d => by
    by_cases e : b = b'
    · subst e
      have hnm : (n == m) = false := by
       have : n ≠ m := fun e => hne (by rw [e])
       simpa using this
      unfold Op.equalIn
      simp [run_underlying hk, hst, n0, n1, o0, o1, part, isAgg, run_underlying hp, run_underlying hi, eqp, eqn, hnm]
    · have h5 : (Op.equalIn (d + 1) f0.type (.pointer (some ⟨b, 0, none⟩)) (.pointer (some ⟨b', 0, none⟩))).run P w = .ok false w := by
       simp [Op.equalIn, run_underlying hp, sizeOf, typeInfo, hte, hsz, run_sameAddr_other w (a := ⟨b, 0, none⟩) (b := ⟨b', 0, none⟩) (fun e2 => e (by simpa using e2)) hb hb']
      unfold Op.equalIn
      simp [run_underlying hk, hst, n0, n1, o0, o1, part, isAgg, run_underlying hp, run_underlying hi, h5]
   simp [Op.equal, Op.maxDepth, h 9998]
 · rintro a ⟨p, n, rfl, b, cs, T, rfl, _⟩ e
   have c0 : ∀ n : Nat, (Instr.checkKey e (n + 1) f0.type (.pointer (some ⟨b, 0, none⟩))).run P w = .ok () w := fun n => by
    simp [Instr.checkKey, run_underlying hp]
   have c1 : ∀ k : Nat, (Instr.checkKey e (k + 1) f1.type (.int .i64 n)).run P w = .ok () w := fun k => by
    simp [Instr.checkKey, run_underlying hi]
   have h : ∀ k : Nat, (Instr.checkKey e (k + 2) tk (.agg #[.pointer (some ⟨b, 0, none⟩), .int .i64 n])).run P w = .ok () w := fun k => by
    unfold Instr.checkKey
    simp [run_underlying hk, n0, n1, o0, o1, part, isAgg, run_underlying hp, run_underlying hi, c0, c1]
   exact h 9998
 · rintro a ⟨p, n, rfl, b, cs, T, rfl, _⟩
   have h : ∀ k : Nat, Instr.sameBits (k + 2) (.agg #[.pointer (some ⟨b, 0, none⟩), .int .i64 n]) (.agg #[.pointer (some ⟨b, 0, none⟩), .int .i64 n]) = true := fun k => by
    simp [Instr.sameBits]
   exact h 9998
end
end Go.Proofs.Ytkndmibmmoikbaa.Mp
