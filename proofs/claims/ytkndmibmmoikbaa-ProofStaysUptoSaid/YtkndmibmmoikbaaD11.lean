/- Chapter 10: Pf2 Pf3. -/
import Derived.Test.YtkndmibmmoikbaaD09
import Derived.Test.YtkndmibmmoikbaaD10
set_option linter.all false
set_option maxRecDepth 100000
set_option maxHeartbeats 16000000
namespace Go.Proofs.Ytkndmibmmoikbaa
open Go.RowKit
open Cox (Tl)
structure Chain (la : Nat → Int) (st : List Tl) (P : Nat → Prop) : Prop where
 step : ∀ (k : Nat) (nd : Tl), P k → st[k]? = some nd → nd.word ≠ [] → ∃ (s : Fin 3) (k' : Nat) (nd' : Tl), la k = (s.val : Int) ∧ nd.to s = some k' ∧ P k' ∧ st[k']? = some nd' ∧ nd.word = nd'.word ++ [s]
 one : ∀ (k k' : Nat) (nd nd' : Tl), P k → P k' → st[k]? = some nd → st[k']? = some nd' → nd.word = nd'.word → k = k'
theorem lex_ne {u v : List (Fin 3)} (h : u.length = v.length) (hne : u ≠ v) (s t : Fin 3) : Cox.lex (u ++ [s]) (v ++ [t]) = Cox.lex u v := by
 cases hl : Cox.lex u v with
 | true => exact Cox.lex_append_right h [s] [t] hl
 | false =>
  have h1 := Cox.lex_total hne hl
  exact Cox.lex_asymm (Cox.lex_append_right h.symm [t] [s] h1)
theorem lex_one : ∀ s t : Fin 3, Cox.lex [s] [t] = decide (s.val < t.val) := by decide
theorem info124 : Option.map (fun i => (i.zero, i.size, i.bytes)) (Try.prog.info? 124) = some (some (.agg #[.int .i64 0, .pointer none, .pointer none, .pointer none, .bool false, .bool false, .bool false, .int .i64 0]), 8, 48) := by kernel_rfl
theorem neq_same (w : World) (b : Nat) : (binOp .neq 69 (.pointer (some ⟨b, 0, none⟩)) (.pointer (some ⟨b, 0, none⟩))).run Try.prog w = .ok (.bool false) w := by
 obtain ⟨j, hj, _, _, _⟩ := info_parts info124
 have h := Mp.equal_ptr_same (P := Try.prog) (tp := 69) (te := 124) w ⟨b, 0, none⟩ (by kernel_rfl) hj
 simp only [binOp]
 simp [h]
theorem neq_other (w : World) {b b' : Nat} {c c' : Array Value} {T T' : TypeId} (hne : b ≠ b') (hb : w.heap[b]? = some (.cells c T (0, 0))) (hb' : w.heap[b']? = some (.cells c' T' (0, 0))) : (binOp .neq 69 (.pointer (some ⟨b, 0, none⟩)) (.pointer (some ⟨b', 0, none⟩))).run Try.prog w = .ok (.bool true) w := by
 obtain ⟨j, hj, _, hj1, _⟩ := info_parts info124
 have hjs : j.size ≠ 0 := by rw [hj1]; decide
 have h := Mp.equal_ptr_other (P := Try.prog) (tp := 69) (te := 124) w (a := ⟨b, 0, none⟩) (b := ⟨b', 0, none⟩) (by kernel_rfl) hj hjs (fun e => hne (by simp at e)) hb hb'
 simp only [binOp]
 simp [h]
noncomputable def wl (A : Nat → Nat) (st : List Tl) (v : Value) : Nat := @dite _ (∃ (p : Nat) (nd : Tl), v = .pointer (some ⟨A p, 0, none⟩) ∧ st[p]? = some nd) (Classical.propDecidable _) (fun h => (Classical.choose (Classical.choose_spec h)).word.length) (fun _ => 0)
theorem wl_at {w : World} {A : Nat → Nat} {la : Nat → Int} {st : List Tl} (hr : PRep w A la st) {p : Nat} {nd : Tl} (hp : st[p]? = some nd) : wl A st (.pointer (some ⟨A p, 0, none⟩)) = nd.word.length := by
 have h : ∃ (q : Nat) (n : Tl), (Value.pointer (some ⟨A p, 0, none⟩)) = .pointer (some ⟨A q, 0, none⟩) ∧ st[q]? = some n := ⟨p, nd, rfl, hp⟩
 unfold wl
 rw [dif_pos h]
 have h2 := Classical.choose_spec (Classical.choose_spec h)
 obtain ⟨h3, h4⟩ := h2
 have h5 : A p = A (Classical.choose h) := by simpa using h3
 have h6 := hr.inj _ _ (List.getElem?_eq_some_iff.1 hp).1 (List.getElem?_eq_some_iff.1 h4).1 h5
 have h8 := (congrArg (fun k => st[k]?) h6).trans h4
 have h7 : nd = Classical.choose (Classical.choose_spec h) := by
  have h9 := hp.symm.trans h8
  exact Option.some.inj h9
 rw [← h7]
theorem ahead_any (A : Nat → Nat) (la : Nat → Int) (st : List Tl) (w : World) (hr : PRep w A la st) (P : Nat → Prop) (hch : Chain la st P) (z x : Nat) (pz : P z) (px : P x) (nz nx : Tl) (hz : st[z]? = some nz) (hx : st[x]? = some nx) (hlen : nz.word.length = nx.word.length) (h100 : nz.word.length < 100000) (s t : Fin 3) :
 Calls Try.prog 80 #[.pointer (some ⟨A z, 0, none⟩), .pointer (some ⟨A x, 0, none⟩), .int .i64 (s.val : Int), .int .i64 (t.val : Int)] w fun e w' => e = .returned (.bool (Cox.lex (nz.word ++ [s]) (nx.word ++ [t]))) ∧ ∃ m, w' = w.drewN m := by
 have HR := Lib.hid hr
 have HC := Lib.hid hch
 have H0 := Hi (And.intro hz (And.intro hx (And.intro (And.intro pz px) hlen)))
 obtain ⟨L, hL⟩ : ∃ L, L = Cox.lex (nz.word ++ [s]) (nx.word ++ [t]) := ⟨_, rfl⟩
 rw [← hL]
 have HL := Lib.hid hL
 have NS0 := Hi (fun m b => neq_same (w.drewN m) b)
 have NO := Hi (fun (b b' : Nat) (c c' : Array Value) (T T' : TypeId) (h1 : b ≠ b') (h2 : w.heap[b]? = some (.cells c T (0, 0))) (h3 : w.heap[b']? = some (.cells c' T' (0, 0))) => neq_other w h1 h2 h3)
 clear hr hch hz hx hL pz px
 go_enter Try.func80, Try.ntmps80
 go_wp2_with fail
 go_loopw [0, 1, 2, 3] (fun aa bb ss tt wr => ∃ (m p q : Nat) (np nq : Tl) (s' t' : Fin 3), wr = w.drewN m ∧ aa = .pointer (some ⟨A p, 0, none⟩) ∧ bb = .pointer (some ⟨A q, 0, none⟩) ∧ ss = .int .i64 (s'.val : Int) ∧ tt = .int .i64 (t'.val : Int) ∧ Hid (st[p]? = some np ∧ st[q]? = some nq ∧ (P p ∧ P q) ∧ np.word.length = nq.word.length ∧ np.word.length < 100000 ∧ Cox.lex (np.word ++ [s']) (nq.word ++ [t']) = L)) (fun aa _ _ _ _ => wl A st aa)
 case atStart => exact ⟨0, z, x, nz, nx, s, t, rfl, rfl, rfl, rfl, rfl, Lib.hid ⟨H0.out.1, H0.out.2.1, H0.out.2.2.1, H0.out.2.2.2, h100, HL.out.symm⟩⟩
 case round =>
  obtain ⟨m, p, q, np, nq, s', t', rfl, rfl, rfl, rfl, rfl, HJ⟩ := hrel
  obtain ⟨hp, hq, hpp, hl, h1, hx⟩ := HJ.out
  have cp := HR.out.cells p np hp
  have cq := HR.out.cells q nq hq
  by_cases hpq : p = q
  · subst hpq
    rw [hp] at hq
    cases hq
    have hlt : L = decide (s'.val < t'.val) := by rw [← hx, Cox.lex_append_left, lex_one]
    have HLT := Lib.hid hlt
    have nsm := NS0.out m (A p)
    clear hx hlt cp cq HJ
    go_wp2
    go_ret
    exact ⟨by rw [HLT.out]; simp, m, rfl⟩
  · have hA : A p ≠ A q := fun e => hpq (HR.out.inj p q (List.getElem?_eq_some_iff.1 hp).1 (List.getElem?_eq_some_iff.1 hq).1 e)
    have hne : np.word ≠ nq.word := fun e => hpq (HC.out.one p q np nq hpp.1 hpp.2 hp hq e)
    have hn1 : np.word ≠ [] := by
     intro e
     rw [e] at hl
     exact hne (by rw [e, List.eq_nil_of_length_eq_zero hl.symm])
    have hn2 : nq.word ≠ [] := by
     intro e
     rw [e] at hl
     exact hn1 (List.eq_nil_of_length_eq_zero hl)
    obtain ⟨s1, p1, np1, l1, o1, m1, n1, w1⟩ := HC.out.step p np hpp.1 hp hn1
    obtain ⟨s2, q1, nq1, l2, o2, m2, n2, w2⟩ := HC.out.step q nq hpp.2 hq hn2
    have nqq := neq_other (w.drewN m) hA cp cq
    have hw1 : np1.word.length = nq1.word.length := by
     rw [w1, w2] at hl
     simpa using hl
    have hw2 : np1.word.length < 100000 := by
     rw [w1] at h1
     simp at h1; omega
    have hlx : Cox.lex (np1.word ++ [s1]) (nq1.word ++ [s2]) = L := by
     rw [← hx, lex_ne hl hne, w1, w2]
    have hwl : np1.word.length < np.word.length := by rw [w1]; simp
    have b1 := HR.out.last hp
    have b2 := HR.out.last hq
    have b3 := HR.out.to hp s1
    have b4 := HR.out.to hq s2
    rw [l1] at b1
    rw [l2] at b2
    rw [o1] at b3
    rw [o2] at b4
    simp only [tv] at b3 b4
    have i1 : (s1.val : Int) < 3 := by omega
    have i2 : (0 : Int) ≤ (s1.val : Int) := by omega
    have i3 : (s2.val : Int) < 3 := by omega
    have i4 : (0 : Int) ≤ (s2.val : Int) := by omega
    have HF := Hi (And.intro n1 (And.intro n2 (And.intro (And.intro m1 m2) (And.intro hw1 (And.intro hw2 (And.intro hlx (And.intro hwl hp)))))))
    clear hp hq hpp hl h1 hx cp cq HJ hne hn1 hn2 l1 l2 o1 o2 n1 n2 m1 m2 w1 w2 hw1 hw2 hlx hwl hpq hA
    go_wp2_with fail
    go_quiet (fail)
    all_goals
     go_wp2_with fail
     go_quiet (fail)
    all_goals
     go_wp2_with fail
     go_roundw
     case rel => exact ⟨_, p1, q1, np1, nq1, s1, s2, by first | rfl | (simp only [World.drewN, Nat.add_assoc]; rfl), rfl, rfl, rfl, rfl, Lib.hid ⟨HF.out.1, HF.out.2.1, HF.out.2.2.1, HF.out.2.2.2.1, HF.out.2.2.2.2.1, HF.out.2.2.2.2.2.1⟩⟩
     case measure =>
      have e1 := wl_at HR.out HF.out.1
      have e2 := wl_at HR.out HF.out.2.2.2.2.2.2.2
      have e3 := HF.out.2.2.2.2.2.2.1
      show wl A st (.pointer (some ⟨A p1, 0, none⟩)) < wl A st (.pointer (some ⟨A p, 0, none⟩))
      omega
end Go.Proofs.Ytkndmibmmoikbaa
namespace Go.Proofs.Ytkndmibmmoikbaa
open Go.RowKit
open Cox (Tl)
theorem newtiling_any (a b c : Int) (w : World) : Calls Try.prog 29 #[oval a b c] w fun e w' => ∃ p F, e = .returned (.pointer (some ⟨p, 0, none⟩)) ∧ w'.heap[p]? = some (.cells #[.int .i64 a, .int .i64 b, .int .i64 c, .pointer (some ⟨F, 0, none⟩)] 93 (0, 0)) ∧ p ≠ F ∧ w.heap.size ≤ F ∧ w.heap.size ≤ p ∧
 PRep w' (fun _ => F) (fun _ => 0) [Cox.first] ∧ Below w.heap.size w w' := by
 unfold oval
 go_enter Try.func29, Try.ntmps29
 go_wp2
 go_ret
 refine ⟨w.heap.size + 1 + 1, w.heap.size + 1, by simp [go_sem], ?_, by omega, by omega, by omega, ⟨?_, ?_, ?_⟩, ?_⟩
 · exact str_new _ _ _ _ (by simp)
 · intro k nd hk
   have : k = 0 := by
    have := (List.getElem?_eq_some_iff.1 hk).1
    simpa using this
   subst this
   simp at hk
   subst hk
   refine (((Below.refl (w.heap.size + 2) _).alloc (by simp) _).block _ (by omega)).trans ?_
   exact str_new _ _ _ _ (by simp)
 · intro j k hj hk _
   simp at hj hk
   omega
 · intro k nd i x hk hx
   have : k = 0 := by
    have := (List.getElem?_eq_some_iff.1 hk).1
    simpa using this
   subst this
   simp at hk
   subst hk
   cases hx
 · exact (((Below.refl _ _).alloc (Nat.le_refl _) _).alloc (by simp) _).alloc (by simp; omega) _
theorem order_any (a b c : Int) (p F : Nat) (i j : Fin 3) (hij : i ≠ j) (w : World) (hp : w.heap[p]? = some (.cells #[.int .i64 a, .int .i64 b, .int .i64 c, .pointer (some ⟨F, 0, none⟩)] 93 (0, 0))) :
 Calls Try.prog 50 #[.pointer (some ⟨p, 0, none⟩), .int .i64 (i.val : Int), .int .i64 (j.val : Int)] w fun e w' => e = .returned (.int .i64 (if (i.val : Int) + (j.val : Int) = 1 then a else if (i.val : Int) + (j.val : Int) = 3 then b else c)) ∧ ∃ n, w' = w.drewN n := by
 have c0 : w.cell? ⟨p, 0, none⟩ = some (.int .i64 a) := by rw [cell_of hp]; rfl
 have c1 : w.cell? ⟨p, 1, none⟩ = some (.int .i64 b) := by rw [cell_of hp]; rfl
 have c2 : w.cell? ⟨p, 2, none⟩ = some (.int .i64 c) := by rw [cell_of hp]; rfl
 clear hp
 have hs : (i.val : Int) + (j.val : Int) = 1 ∨ (i.val : Int) + (j.val : Int) = 2 ∨ (i.val : Int) + (j.val : Int) = 3 := by
  have h1 := i.isLt
  have h2 := j.isLt
  have h3 : i.val ≠ j.val := fun e => hij (Fin.ext e)
  omega
 have g1 : (0 : Int) ≤ (i.val : Int) := by omega
 have g2 : (i.val : Int) ≤ 2 := by have := i.isLt; omega
 have g3 : (0 : Int) ≤ (j.val : Int) := by omega
 have g4 : (j.val : Int) ≤ 2 := by have := j.isLt; omega
 generalize (i.val : Int) = x at *
 generalize (j.val : Int) = y at *
 have x1 : ∀ W, (Instr.index 60 (.agg #[.int .i64 0, .int .i64 a, .int .i64 c, .int .i64 b]) (.int .i64 1)).run Try.prog W = .ok (.int .i64 a) W := fun _ => by kernel_rfl
 have x2 : ∀ W, (Instr.index 60 (.agg #[.int .i64 0, .int .i64 a, .int .i64 c, .int .i64 b]) (.int .i64 2)).run Try.prog W = .ok (.int .i64 c) W := fun _ => by kernel_rfl
 have x3 : ∀ W, (Instr.index 60 (.agg #[.int .i64 0, .int .i64 a, .int .i64 c, .int .i64 b]) (.int .i64 3)).run Try.prog W = .ok (.int .i64 b) W := fun _ => by kernel_rfl
 rcases hs with hs | hs | hs
 · rw [if_pos hs]
   go_enter Try.func50, Try.ntmps50
   go_wp2_with fail
   go_quiet (fail)
   all_goals
    go_wp2
    go_ret
    exact ⟨rfl, _, rfl⟩
 · rw [if_neg (by omega), if_neg (by omega)]
   go_enter Try.func50, Try.ntmps50
   go_wp2_with fail
   go_quiet (fail)
   all_goals
    go_wp2
    go_ret
    exact ⟨rfl, _, rfl⟩
 · rw [if_neg (by omega), if_pos hs]
   go_enter Try.func50, Try.ntmps50
   go_wp2_with fail
   go_quiet (fail)
   all_goals
    go_wp2
    go_ret
    exact ⟨rfl, _, rfl⟩
end Go.Proofs.Ytkndmibmmoikbaa
