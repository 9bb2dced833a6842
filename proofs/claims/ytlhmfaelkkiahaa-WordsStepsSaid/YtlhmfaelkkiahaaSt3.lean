import Derived.Test.YtlhmfaelkkiahaaSt2
namespace Go.Proofs.Ytlhmfaelkkiahaa
open Go.RowKit
open Cox (Tl)

def btw (a b c : Int) (i j : Int) : Int := if i + j = 1 then a else if i + j = 3 then b else c

set_option maxRecDepth 100000 in
theorem stepped_row_end (a b c : Int) (l : List (Fin 3)) (hl : l.length ≤ 1000) (x : Int) (hx : 0 ≤ x ∧ x ≤ 2) (w : World) :
    Calls Try.prog 10 #[oval a b c, .string (wb l), sval 2 (l.length : Int) x] w fun e w' => e = .returned (.string (wb l)) ∧ Below w.heap.size w w' := by
  have zl := wb_size l
  have h1 : ¬ (l.length : Int) < 0 := by omega
  have h2 : ¬ (l.length : Int) < (l.length : Int) := by omega
  have h3 : ¬ x < 0 := by omega
  have h4 : ¬ 2 < x := by omega
  have hd : decide ((l.length : Int) ≤ (l.length : Int)) = true := by simp
  unfold oval sval
  have ha := AtO.newT 2 l.length x (w.alloc (.cells #[.int .i64 a, .int .i64 b, .int .i64 c] 23)) 32
  rw [World.size_alloc] at ha
  have hb := ((Below.refl w.heap.size w).alloc (Nat.le_refl _) (.cells #[.int .i64 a, .int .i64 b, .int .i64 c] 23)).alloc (by simp) (.cells #[.int .i64 2, .int .i64 l.length, .int .i64 x] 32)
  have HB := Lib.hid hb
  obtain ⟨a0, a1, a2, -⟩ := ha
  clear hb
  generalize l.length = p at *
  generalize wb l = S at *
  go_enter Try.func10, Try.ntmps10
  go_wp2_with fail
  go_quiet (fail)
  all_goals
    go_wp2
    go_ret
    exact ⟨rfl, by first | exact HB.out | exact below_drewN HB.out _ | exact below_drewN (below_drewN HB.out _) _⟩

set_option maxRecDepth 100000 in
theorem stepped_row_same (a b c : Int) (l : List (Fin 3)) (p : Nat) (hp : p < l.length) (w : World) :
    Calls Try.prog 10 #[oval a b c, .string (wb l), sval 2 p ((l[p].val : Nat) : Int)] w fun e w' => e = .returned (.string (wb l)) ∧ Below w.heap.size w w' := by
  have zl := wb_size l
  have h1 : ¬ (p : Int) < 0 := by omega
  have h2 : ¬ (l.length : Int) < (p : Int) := by omega
  have h2' : (p : Int) ≤ (l.length : Int) := by omega
  have h2'' : (0 : Int) ≤ (p : Int) := by omega
  have h5 : (p : Int) < (l.length : Int) := by omega
  have hx := l[p].isLt
  have hd : decide ((l.length : Int) ≤ (p : Int)) = false := by simpa using h5
  have i0 := fun W => index_wb l p hp W
  have h3 : ¬ ((l[p].val : Nat) : Int) < 0 := by omega
  have h4 : ¬ 2 < ((l[p].val : Nat) : Int) := by omega
  have h6 : ((l[p].val : Nat) : Int) ≤ 2 := by omega
  have h7 : 0 ≤ ((l[p].val : Nat) : Int) := by omega
  have hw : IntKind.i64.wrap ((l[p].val : Nat) : Int) = ((l[p].val : Nat) : Int) := by rw [IntKind.wrap_i64]; omega
  clear hx
  generalize ((l[p].val : Nat) : Int) = x at *
  unfold oval sval
  have ha := AtO.newT 2 p x (w.alloc (.cells #[.int .i64 a, .int .i64 b, .int .i64 c] 23)) 32
  rw [World.size_alloc] at ha
  have hb := ((Below.refl w.heap.size w).alloc (Nat.le_refl _) (.cells #[.int .i64 a, .int .i64 b, .int .i64 c] 23)).alloc (by simp) (.cells #[.int .i64 2, .int .i64 p, .int .i64 x] 32)
  have HB := Lib.hid hb
  obtain ⟨a0, a1, a2, -⟩ := ha
  clear hb
  generalize wb l = S at *
  go_enter Try.func10, Try.ntmps10
  go_wp2_with fail
  go_quiet (fail)
  all_goals
    go_wp2
    go_ret
    exact ⟨rfl, by first | exact HB.out | exact below_drewN HB.out _ | exact below_drewN (below_drewN HB.out _) _⟩

/-- a contract, told over two boxes -/
theorem over2 {p : FuncId} {args : Array Value} {r : Value} (h : ∀ w, Calls Try.prog p args w fun e w' => e = .returned r ∧ Below w.heap.size w w') (a b c a' b' c' : Int) (w0 : World) (B B' : Nat) (w : World) (ha : AtO a b c B w) (ha' : AtO a' b' c' B' w) (hb : Below w0.heap.size w0 w) :
    Calls Try.prog p args w fun e w' => e = .returned r ∧ AtO a b c B w' ∧ AtO a' b' c' B' w' ∧ Below w0.heap.size w0 w' := (h w).mono fun _ _ hh => ⟨hh.1, ha.below hh.2, ha'.below hh.2, hb.trans (hh.2.mono hb.size)⟩

set_option maxRecDepth 100000 in
theorem stepped_row_not (a b c : Int) (l : List (Fin 3)) (hl : l.length ≤ 1000) (p : Nat) (hp : p < l.length) (x : Int) (hx : 0 ≤ x ∧ x ≤ 2) (hne : ((l[p].val : Nat) : Int) ≠ x)
    (m : Int) (hm : (if ((l[p].val : Nat) : Int) + x = 1 then a else if ((l[p].val : Nat) : Int) + x = 3 then b else c) = m) (h12 : 0 ≤ m ∧ m ≤ 12) (hbad : m = 0 ∨ (l.length : Int) < p + m) (w : World) :
    Calls Try.prog 10 #[oval a b c, .string (wb l), sval 2 p x] w fun e w' => e = .returned (.string (wb l)) ∧ Below w.heap.size w w' := by
  have zl := wb_size l
  have h1 : ¬ (p : Int) < 0 := by omega
  have h2 : ¬ (l.length : Int) < (p : Int) := by omega
  have h2' : (p : Int) ≤ (l.length : Int) := by omega
  have h2'' : (0 : Int) ≤ (p : Int) := by omega
  have h5 : (p : Int) < (l.length : Int) := by omega
  have hy := l[p].isLt
  have hd : decide ((l.length : Int) ≤ (p : Int)) = false := by simpa using h5
  have i0 := fun W => index_wb l p hp W
  have h3 : ¬ x < 0 := by omega
  have h4 : ¬ 2 < x := by omega
  have h6 : 0 ≤ ((l[p].val : Nat) : Int) ∧ ((l[p].val : Nat) : Int) ≤ 2 := by omega
  have hw : IntKind.i64.wrap ((l[p].val : Nat) : Int) = ((l[p].val : Nat) : Int) := by rw [IntKind.wrap_i64]; omega
  have HBt := Lib.hid (over2 (fun w => by have := between_any a b c ((l[p].val : Nat) : Int) x h6 hx w; rw [hm] at this; exact this) a b c 2 p x)
  clear hy hm
  generalize ((l[p].val : Nat) : Int) = y at *
  have hd2 : (y == x) = false := by simpa using hne
  unfold oval sval at *
  have ha := AtO.newT 2 p x (w.alloc (.cells #[.int .i64 a, .int .i64 b, .int .i64 c] 23)) 32
  rw [World.size_alloc] at ha
  have ha0 : AtO a b c w.heap.size ((w.alloc (.cells #[.int .i64 a, .int .i64 b, .int .i64 c] 23)).alloc (.cells #[.int .i64 2, .int .i64 p, .int .i64 x] 32)) := (AtO.new a b c w).below ((Below.refl _ _).alloc (Nat.le_refl _) _)
  have hb := ((Below.refl w.heap.size w).alloc (Nat.le_refl _) (.cells #[.int .i64 a, .int .i64 b, .int .i64 c] 23)).alloc (by simp) (.cells #[.int .i64 2, .int .i64 p, .int .i64 x] 32)
  have HB := Lib.hid hb
  have HA := Lib.hid ha
  have HA0 := Lib.hid ha0
  obtain ⟨a0, a1, a2, -⟩ := ha
  obtain ⟨o0, o1, o2, -⟩ := ha0
  clear hb
  generalize wb l = S at *
  go_enter Try.func10, Try.ntmps10
  go_wp2_with fail
  go_quiet (fail)
  all_goals
    go_wp2_with fail
    go_region_held3 (fun w' => (w'.cell? ⟨w.heap.size + 1, 0, none⟩ = some (.int .i64 2) ∧ w'.cell? ⟨w.heap.size + 1, 1, none⟩ = some (.int .i64 p) ∧ w'.cell? ⟨w.heap.size + 1, 2, none⟩ = some (.int .i64 x)) ∧ (w'.cell? ⟨w.heap.size, 0, none⟩ = some (.int .i64 a) ∧ w'.cell? ⟨w.heap.size, 1, none⟩ = some (.int .i64 b) ∧ w'.cell? ⟨w.heap.size, 2, none⟩ = some (.int .i64 c)))
      ((first | exact ⟨⟨a0, a1, a2⟩, o0, o1, o2⟩ | (obtain ⟨g0, g1, g2, -⟩ := ‹AtO a b c _ _›; obtain ⟨k0, k1, k2, -⟩ := ‹AtO 2 _ _ _ _›; exact ⟨⟨k0, k1, k2⟩, g0, g1, g2⟩)))
      (first | (go_at_call 29; with_reducible refine (HBt.out _ _ _ _ (HA0.out.below (below_drewN (Below.refl _ _) _)) (HA.out.below (below_drewN (Below.refl _ _) _)) (below_drewN HB.out _)).mono ?_; rintro e w2 ⟨rfl, ha, ha', hb⟩))
  all_goals
    clear HA HA0 HB
    have HB := Lib.hid hb
    obtain ⟨a0, a1, a2, -⟩ := ha'
    rcases hbad with h8 | h8
    · subst h8
      go_wp2
      go_ret
      exact ⟨rfl, HB.out⟩
    · have h9 : 0 ≤ (p : Int) + m := by omega
      go_wp2
      go_ret
      exact ⟨rfl, HB.out⟩
end Go.Proofs.Ytlhmfaelkkiahaa
