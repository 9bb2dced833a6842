/- Chapter 10: Tors2. -/
import Derived.Test.YtkndmibmmoikbaaD13
import Derived.Test.YtkndmibmmoikbaaD03
set_option linter.all false
set_option maxRecDepth 100000
set_option maxHeartbeats 16000000
set_option linter.unusedSectionVars false
set_option linter.unusedVariables false
namespace Go.Proofs.Ytkndmibmmoikbaa.Cox
/- Orders of turns; where the angles are small, there is a heavy weight. -/
section
variable {K : Type} [OR K] (W : Tri K)
def ge (m k : Nat) : Prop := m = 0 ∨ k ≤ m
theorem us_nn {c : K} {m k : Nat} (h : Angle c m) (g : ge m k) : 0 ≤ us c k := by
 rcases Nat.eq_zero_or_pos k with e | e
 · subst e; exact OR.le_refl _
 · rcases g with g | g
   · exact OR.le_of_lt (h.pos k e (.inl g))
   · rcases Nat.lt_or_eq_of_le g with g | g
     · exact OR.le_of_lt (h.pos k e (.inr g))
     · by_cases hm : m = 0
       · exact OR.le_of_lt (h.pos k e (.inl hm))
       · rw [g, (h.zero hm).1]; exact OR.le_refl _
theorem us_2 (c : K) : us c 2 = c := by
 show c * 1 - 0 = c
 exact (OR.ring [c] (.sub (.mul (.v 0) .o) .z) (.v 0) (by decide +kernel))
theorem us_3 (c : K) : us c 3 = c * c - 1 := by
 show c * us c 2 - 1 = c * c - 1
 rw [us_2]
theorem us_4 (c : K) : us c 4 = c * (c * c - (1 + 1)) := by
 show c * us c 3 - us c 2 = _
 rw [us_3, us_2]
 exact (OR.ring [c] (.sub (.mul (.v 0) (.sub (.mul (.v 0) (.v 0)) .o)) (.v 0)) (.mul (.v 0) (.sub (.mul (.v 0) (.v 0)) (.add .o .o))) (by decide +kernel))
theorem us_6 (c : K) : us c 6 = c * (c * c - 1) * (c * c - (1 + 1 + 1)) := by
 show c * (c * us c 4 - us c 3) - us c 4 = _
 rw [us_4, us_3]
 exact (OR.ring [c] (.sub (.mul (.v 0) (.sub (.mul (.v 0) (.mul (.v 0) (.sub (.mul (.v 0) (.v 0)) (.add .o .o)))) (.sub (.mul (.v 0) (.v 0)) .o))) (.mul (.v 0) (.sub (.mul (.v 0) (.v 0)) (.add .o .o)))) (.mul (.mul (.v 0) (.sub (.mul (.v 0) (.v 0)) .o)) (.sub (.mul (.v 0) (.v 0)) (.add (.add .o .o) .o))) (by decide +kernel))
theorem OR.nn_of_mul {a b : K} (ha : 0 < a) (h : 0 ≤ a * b) : 0 ≤ b := by
 rcases OR.nn_or b with g | g
 · exact g
 · exfalso
   have h1 := OR.mul_pos _ _ ha (OR.neg_pos.2 g)
   rw [OR.mul_neg] at h1
   exact OR.not_both h (OR.neg_pos.1 h1)
theorem us_pos {c : K} {m k : Nat} (h : Angle c m) (hk : 0 < k) (g : ge m (k + 1)) : 0 < us c k := h.pos k hk (by rcases g with g | g; exact .inl g; exact .inr (by omega))
theorem cos_2 {c : K} {m : Nat} (h : Angle c m) (g : ge m 2) : 0 ≤ c := by rw [← us_2 c]; exact us_nn h g
theorem cos_3 {c : K} {m : Nat} (h : Angle c m) (g : ge m 3) : 0 ≤ c - 1 := by
 have h2 : 0 < c := by rw [← us_2 c]; exact us_pos h (by omega) g
 have h3 := us_nn h g
 rw [us_3] at h3
 have e : c * c - 1 = (c + 1) * (c - 1) := (OR.ring [c] (.sub (.mul (.v 0) (.v 0)) .o) (.mul (.add (.v 0) .o) (.sub (.v 0) .o)) (by decide +kernel))
 rw [e] at h3
 exact OR.nn_of_mul (OR.add_pos h2 OR.one_pos) h3
theorem cos_4 {c : K} {m : Nat} (h : Angle c m) (g : ge m 4) : 0 ≤ c * c - (1 + 1) := by
 have h2 : 0 < c := by rw [← us_2 c]; exact us_pos h (by omega) (by rcases g with g | g; exact .inl g; exact .inr (by omega))
 have h3 := us_nn h g
 rw [us_4] at h3
 exact OR.nn_of_mul h2 h3
theorem cos_6 {c : K} {m : Nat} (h : Angle c m) (g : ge m 6) : 0 ≤ c * c - (1 + 1 + 1) := by
 have h2 : 0 < c := by rw [← us_2 c]; exact us_pos h (by omega) (by rcases g with g | g; exact .inl g; exact .inr (by omega))
 have h4 : 0 < c * c - 1 := by rw [← us_3 c]; exact us_pos h (by omega) (by rcases g with g | g; exact .inl g; exact .inr (by omega))
 have h3 := us_nn h g
 rw [us_6] at h3
 exact OR.nn_of_mul (OR.mul_pos _ _ h2 h4) h3
theorem ge_less {m k j : Nat} (h : ge m k) (hj : j ≤ k) : ge m j := by
 rcases h with h | h
 · exact .inl h
 · exact .inr (by omega)
def Small (x y z : K) : Prop := 0 ≤ x * x + y * y + z * z + x * y * z - (1 + 1 + 1 + 1)
theorem Small.turn {x y z : K} (h : Small x y z) : Small y z x := by
 unfold Small at *
 have e : y * y + z * z + x * x + y * z * x - (1 + 1 + 1 + 1) = x * x + y * y + z * z + x * y * z - (1 + 1 + 1 + 1) := (OR.ring [x, y, z] (.sub (.add (.add (.add (.mul (.v 1) (.v 1)) (.mul (.v 2) (.v 2))) (.mul (.v 0) (.v 0))) (.mul (.mul (.v 1) (.v 2)) (.v 0))) (.add (.add (.add .o .o) .o) .o)) (.sub (.add (.add (.add (.mul (.v 0) (.v 0)) (.mul (.v 1) (.v 1))) (.mul (.v 2) (.v 2))) (.mul (.mul (.v 0) (.v 1)) (.v 2))) (.add (.add (.add .o .o) .o) .o)) (by decide +kernel))
 rw [e]; exact h
theorem Small.swap {x y z : K} (h : Small x y z) : Small y x z := by
 unfold Small at *
 have e : y * y + x * x + z * z + y * x * z - (1 + 1 + 1 + 1) = x * x + y * y + z * z + x * y * z - (1 + 1 + 1 + 1) := (OR.ring [x, y, z] (.sub (.add (.add (.add (.mul (.v 1) (.v 1)) (.mul (.v 0) (.v 0))) (.mul (.v 2) (.v 2))) (.mul (.mul (.v 1) (.v 0)) (.v 2))) (.add (.add (.add .o .o) .o) .o)) (.sub (.add (.add (.add (.mul (.v 0) (.v 0)) (.mul (.v 1) (.v 1))) (.mul (.v 2) (.v 2))) (.mul (.mul (.v 0) (.v 1)) (.v 2))) (.add (.add (.add .o .o) .o) .o)) (by decide +kernel))
 rw [e]; exact h
theorem small_236 {x y z : K} {p q r : Nat} (hx : Angle x p) (hy : Angle y q) (hz : Angle z r) (hp : ge p 2) (hq : ge q 3) (hr : ge r 6) : Small x y z := by
 have a := cos_2 hx hp
 have b := cos_3 hy hq
 have b' := cos_2 hy (ge_less hq (by omega))
 have c := cos_6 hz hr
 have c' := cos_2 hz (ge_less hr (by omega))
 unfold Small
 have e : x * x + y * y + z * z + x * y * z - (1 + 1 + 1 + 1) = x * x + (y + 1) * (y - 1) + (z * z - (1 + 1 + 1)) + x * y * z := (OR.ring [x, y, z] (.sub (.add (.add (.add (.mul (.v 0) (.v 0)) (.mul (.v 1) (.v 1))) (.mul (.v 2) (.v 2))) (.mul (.mul (.v 0) (.v 1)) (.v 2))) (.add (.add (.add .o .o) .o) .o)) (.add (.add (.add (.mul (.v 0) (.v 0)) (.mul (.add (.v 1) .o) (.sub (.v 1) .o))) (.sub (.mul (.v 2) (.v 2)) (.add (.add .o .o) .o))) (.mul (.mul (.v 0) (.v 1)) (.v 2))) (by decide +kernel))
 rw [e]
 exact OR.add_nn (OR.add_nn (OR.add_nn (OR.mul_nn a a) (OR.mul_nn (OR.add_nn b' (OR.le_of_lt OR.one_pos)) b)) c) (OR.mul_nn (OR.mul_nn a b') c')
theorem small_244 {x y z : K} {p q r : Nat} (hx : Angle x p) (hy : Angle y q) (hz : Angle z r) (hp : ge p 2) (hq : ge q 4) (hr : ge r 4) : Small x y z := by
 have a := cos_2 hx hp
 have b := cos_4 hy hq
 have b' := cos_2 hy (ge_less hq (by omega))
 have c := cos_4 hz hr
 have c' := cos_2 hz (ge_less hr (by omega))
 unfold Small
 have e : x * x + y * y + z * z + x * y * z - (1 + 1 + 1 + 1) = x * x + (y * y - (1 + 1)) + (z * z - (1 + 1)) + x * y * z := (OR.ring [x, y, z] (.sub (.add (.add (.add (.mul (.v 0) (.v 0)) (.mul (.v 1) (.v 1))) (.mul (.v 2) (.v 2))) (.mul (.mul (.v 0) (.v 1)) (.v 2))) (.add (.add (.add .o .o) .o) .o)) (.add (.add (.add (.mul (.v 0) (.v 0)) (.sub (.mul (.v 1) (.v 1)) (.add .o .o))) (.sub (.mul (.v 2) (.v 2)) (.add .o .o))) (.mul (.mul (.v 0) (.v 1)) (.v 2))) (by decide +kernel))
 rw [e]
 exact OR.add_nn (OR.add_nn (OR.add_nn (OR.mul_nn a a) b) c) (OR.mul_nn (OR.mul_nn a b') c')
theorem small_333 {x y z : K} {p q r : Nat} (hx : Angle x p) (hy : Angle y q) (hz : Angle z r) (hp : ge p 3) (hq : ge q 3) (hr : ge r 3) : Small x y z := by
 have a := cos_3 hx hp
 have a' := cos_2 hx (ge_less hp (by omega))
 have b := cos_3 hy hq
 have b' := cos_2 hy (ge_less hq (by omega))
 have c := cos_3 hz hr
 have c' := cos_2 hz (ge_less hr (by omega))
 have o := OR.le_of_lt (OR.one_pos (K := K))
 unfold Small
 have e : x * x + y * y + z * z + x * y * z - (1 + 1 + 1 + 1) = (x + 1) * (x - 1) + (y + 1) * (y - 1) + (z + 1) * (z - 1) + ((x - 1) * (y * z) + (y - 1) * z + (z - 1)) :=
  (OR.ring [x, y, z] (.sub (.add (.add (.add (.mul (.v 0) (.v 0)) (.mul (.v 1) (.v 1))) (.mul (.v 2) (.v 2))) (.mul (.mul (.v 0) (.v 1)) (.v 2))) (.add (.add (.add .o .o) .o) .o)) (.add (.add (.add (.mul (.add (.v 0) .o) (.sub (.v 0) .o)) (.mul (.add (.v 1) .o) (.sub (.v 1) .o))) (.mul (.add (.v 2) .o) (.sub (.v 2) .o))) (.add (.add (.mul (.sub (.v 0) .o) (.mul (.v 1) (.v 2))) (.mul (.sub (.v 1) .o) (.v 2))) (.sub (.v 2) .o))) (by decide +kernel))
 rw [e]
 exact OR.add_nn (OR.add_nn (OR.add_nn (OR.mul_nn (OR.add_nn a' o) a) (OR.mul_nn (OR.add_nn b' o) b)) (OR.mul_nn (OR.add_nn c' o) c))
  (OR.add_nn (OR.add_nn (OR.mul_nn a (OR.mul_nn b' c')) (OR.mul_nn b c')) c)
theorem heavy_of {x y z : K} (h0 : W.c 0 1 = x) (h1 : W.c 1 2 = y) (h2 : W.c 0 2 = z) (hx : 0 ≤ x) (hy : 0 ≤ y) (hz : 0 ≤ z) (kx : 0 ≤ (1 + 1) - x) (ky : 0 ≤ (1 + 1) - y) (kz : 0 ≤ (1 + 1) - z) (hs : Small x y z) : ∃ b, Heavy W b := by
 have sq : ∀ t : K, 0 ≤ t → 0 ≤ (1 + 1) - t → 0 ≤ (1 + 1) * (1 + 1) - t * t := by
  intro t ht kt
  have e : (1 + 1) * (1 + 1) - t * t = ((1 + 1) + t) * ((1 + 1) - t) := (OR.ring [t] (.sub (.mul (.add .o .o) (.add .o .o)) (.mul (.v 0) (.v 0))) (.mul (.add (.add .o .o) (.v 0)) (.sub (.add .o .o) (.v 0))) (by decide +kernel))
  rw [e]
  exact OR.mul_nn (OR.add_nn (OR.le_of_lt (OR.add_pos OR.one_pos OR.one_pos)) ht) kt
 have two : (0 : K) ≤ 1 + 1 := OR.le_of_lt (OR.add_pos OR.one_pos OR.one_pos)
 have sx := sq x hx kx
 have sy := sq y hy ky
 have sz := sq z hz kz
 have xy := OR.mul_nn hx hy
 have yz := OR.mul_nn hy hz
 have xz := OR.mul_nn hx hz
 have tx := OR.mul_nn two hx
 have ty := OR.mul_nn two hy
 have tz := OR.mul_nn two hz
 have c10 : W.c 1 0 = x := by rw [W.csym]; exact h0
 have c21 : W.c 2 1 = y := by rw [W.csym]; exact h1
 have c20 : W.c 2 0 = z := by rw [W.csym]; exact h2
 obtain ⟨b0, hb0⟩ : ∃ b0, ((1 + 1) * (1 + 1) - y * y) + ((1 + 1) * x + y * z) + (x * y + (1 + 1) * z) = b0 := ⟨_, rfl⟩
 obtain ⟨b1, hb1⟩ : ∃ b1, ((1 + 1) * x + y * z) + ((1 + 1) * (1 + 1) - z * z) + ((1 + 1) * y + x * z) = b1 := ⟨_, rfl⟩
 obtain ⟨b2, hb2⟩ : ∃ b2, (x * y + (1 + 1) * z) + ((1 + 1) * y + x * z) + ((1 + 1) * (1 + 1) - x * x) = b2 := ⟨_, rfl⟩
 have n0 : 0 ≤ b0 := by rw [← hb0]; exact OR.add_nn (OR.add_nn sy (OR.add_nn tx yz)) (OR.add_nn xy tz)
 have n1 : 0 ≤ b1 := by rw [← hb1]; exact OR.add_nn (OR.add_nn (OR.add_nn tx yz) sz) (OR.add_nn ty xz)
 have n2 : 0 ≤ b2 := by rw [← hb2]; exact OR.add_nn (OR.add_nn (OR.add_nn xy tz) (OR.add_nn ty xz)) sx
 have up : 0 ≤ (1 + 1) * (x * x + y * y + z * z + x * y * z - (1 + 1 + 1 + 1)) := OR.mul_nn two hs
 refine ⟨fun i => if i = 0 then b0 else if i = 1 then b1 else b2, ?_, ?_, ?_⟩
 · intro i
   match i with
   | 0 => exact n0
   | 1 => exact n1
   | 2 => exact n2
 · refine Classical.byContradiction fun hno => ?_
   have z0 : b0 = 0 := Classical.byContradiction fun e => hno ⟨0, OR.pos_of n0 e⟩
   have z1 : b1 = 0 := Classical.byContradiction fun e => hno ⟨1, OR.pos_of n1 e⟩
   have hp : 0 < b0 + y * b1 := by
    have e : b0 + y * b1 = (1 + 1) * (1 + 1) + (y * y + (1 + 1) * x + y * z + x * y + (1 + 1) * z + y * ((1 + 1) * x) + y * (y * z) + y * ((1 + 1) * (1 + 1) - z * z) + y * (x * z)) := by
     rw [← hb0, ← hb1]
     exact (OR.ring [x, y, z] (.add (.add (.add (.sub (.mul (.add .o .o) (.add .o .o)) (.mul (.v 1) (.v 1))) (.add (.mul (.add .o .o) (.v 0)) (.mul (.v 1) (.v 2)))) (.add (.mul (.v 0) (.v 1)) (.mul (.add .o .o) (.v 2)))) (.mul (.v 1) (.add (.add (.add (.mul (.add .o .o) (.v 0)) (.mul (.v 1) (.v 2))) (.sub (.mul (.add .o .o) (.add .o .o)) (.mul (.v 2) (.v 2)))) (.add (.mul (.add .o .o) (.v 1)) (.mul (.v 0) (.v 2)))))) (.add (.mul (.add .o .o) (.add .o .o)) (.add (.add (.add (.add (.add (.add (.add (.add (.mul (.v 1) (.v 1)) (.mul (.add .o .o) (.v 0))) (.mul (.v 1) (.v 2))) (.mul (.v 0) (.v 1))) (.mul (.add .o .o) (.v 2))) (.mul (.v 1) (.mul (.add .o .o) (.v 0)))) (.mul (.v 1) (.mul (.v 1) (.v 2)))) (.mul (.v 1) (.sub (.mul (.add .o .o) (.add .o .o)) (.mul (.v 2) (.v 2))))) (.mul (.v 1) (.mul (.v 0) (.v 2))))) (by decide +kernel))
    rw [e]
    have t2 : (0 : K) < 1 + 1 := OR.add_pos OR.one_pos OR.one_pos
    exact OR.add_pos_nn (OR.mul_pos _ _ t2 t2) (OR.add_nn (OR.add_nn (OR.add_nn (OR.add_nn (OR.add_nn (OR.add_nn (OR.add_nn (OR.add_nn (OR.mul_nn hy hy) tx) yz) xy) tz) (OR.mul_nn hy tx)) (OR.mul_nn hy yz)) (OR.mul_nn hy sz)) (OR.mul_nn hy xz))
   rw [z0, z1, OR.mul_zero, OR.add_zero] at hp
   exact OR.lt_irrefl _ hp
 · intro s
   match s with
   | 0 =>
    show 0 ≤ W.c 0 0 * b0 + W.c 0 1 * b1 + W.c 0 2 * b2
    rw [W.cself, h0, h2, ← hb0, ← hb1, ← hb2]
    have e : -(1 + 1) * (((1 + 1) * (1 + 1) - y * y) + ((1 + 1) * x + y * z) + (x * y + (1 + 1) * z)) + x * (((1 + 1) * x + y * z) + ((1 + 1) * (1 + 1) - z * z) + ((1 + 1) * y + x * z)) + z * ((x * y + (1 + 1) * z) + ((1 + 1) * y + x * z) + ((1 + 1) * (1 + 1) - x * x)) = (1 + 1) * (x * x + y * y + z * z + x * y * z - (1 + 1 + 1 + 1)) :=
     (OR.ring [x, y, z] (.add (.add (.mul (.neg (.add .o .o)) (.add (.add (.sub (.mul (.add .o .o) (.add .o .o)) (.mul (.v 1) (.v 1))) (.add (.mul (.add .o .o) (.v 0)) (.mul (.v 1) (.v 2)))) (.add (.mul (.v 0) (.v 1)) (.mul (.add .o .o) (.v 2))))) (.mul (.v 0) (.add (.add (.add (.mul (.add .o .o) (.v 0)) (.mul (.v 1) (.v 2))) (.sub (.mul (.add .o .o) (.add .o .o)) (.mul (.v 2) (.v 2)))) (.add (.mul (.add .o .o) (.v 1)) (.mul (.v 0) (.v 2)))))) (.mul (.v 2) (.add (.add (.add (.mul (.v 0) (.v 1)) (.mul (.add .o .o) (.v 2))) (.add (.mul (.add .o .o) (.v 1)) (.mul (.v 0) (.v 2)))) (.sub (.mul (.add .o .o) (.add .o .o)) (.mul (.v 0) (.v 0)))))) (.mul (.add .o .o) (.sub (.add (.add (.add (.mul (.v 0) (.v 0)) (.mul (.v 1) (.v 1))) (.mul (.v 2) (.v 2))) (.mul (.mul (.v 0) (.v 1)) (.v 2))) (.add (.add (.add .o .o) .o) .o))) (by decide +kernel))
    rw [e]; exact up
   | 1 =>
    show 0 ≤ W.c 1 0 * b0 + W.c 1 1 * b1 + W.c 1 2 * b2
    rw [W.cself, c10, h1, ← hb0, ← hb1, ← hb2]
    have e : x * (((1 + 1) * (1 + 1) - y * y) + ((1 + 1) * x + y * z) + (x * y + (1 + 1) * z)) + -(1 + 1) * (((1 + 1) * x + y * z) + ((1 + 1) * (1 + 1) - z * z) + ((1 + 1) * y + x * z)) + y * ((x * y + (1 + 1) * z) + ((1 + 1) * y + x * z) + ((1 + 1) * (1 + 1) - x * x)) = (1 + 1) * (x * x + y * y + z * z + x * y * z - (1 + 1 + 1 + 1)) :=
     (OR.ring [x, y, z] (.add (.add (.mul (.v 0) (.add (.add (.sub (.mul (.add .o .o) (.add .o .o)) (.mul (.v 1) (.v 1))) (.add (.mul (.add .o .o) (.v 0)) (.mul (.v 1) (.v 2)))) (.add (.mul (.v 0) (.v 1)) (.mul (.add .o .o) (.v 2))))) (.mul (.neg (.add .o .o)) (.add (.add (.add (.mul (.add .o .o) (.v 0)) (.mul (.v 1) (.v 2))) (.sub (.mul (.add .o .o) (.add .o .o)) (.mul (.v 2) (.v 2)))) (.add (.mul (.add .o .o) (.v 1)) (.mul (.v 0) (.v 2)))))) (.mul (.v 1) (.add (.add (.add (.mul (.v 0) (.v 1)) (.mul (.add .o .o) (.v 2))) (.add (.mul (.add .o .o) (.v 1)) (.mul (.v 0) (.v 2)))) (.sub (.mul (.add .o .o) (.add .o .o)) (.mul (.v 0) (.v 0)))))) (.mul (.add .o .o) (.sub (.add (.add (.add (.mul (.v 0) (.v 0)) (.mul (.v 1) (.v 1))) (.mul (.v 2) (.v 2))) (.mul (.mul (.v 0) (.v 1)) (.v 2))) (.add (.add (.add .o .o) .o) .o))) (by decide +kernel))
    rw [e]; exact up
   | 2 =>
    show 0 ≤ W.c 2 0 * b0 + W.c 2 1 * b1 + W.c 2 2 * b2
    rw [W.cself, c20, c21, ← hb0, ← hb1, ← hb2]
    have e : z * (((1 + 1) * (1 + 1) - y * y) + ((1 + 1) * x + y * z) + (x * y + (1 + 1) * z)) + y * (((1 + 1) * x + y * z) + ((1 + 1) * (1 + 1) - z * z) + ((1 + 1) * y + x * z)) + -(1 + 1) * ((x * y + (1 + 1) * z) + ((1 + 1) * y + x * z) + ((1 + 1) * (1 + 1) - x * x)) = (1 + 1) * (x * x + y * y + z * z + x * y * z - (1 + 1 + 1 + 1)) :=
     (OR.ring [x, y, z] (.add (.add (.mul (.v 2) (.add (.add (.sub (.mul (.add .o .o) (.add .o .o)) (.mul (.v 1) (.v 1))) (.add (.mul (.add .o .o) (.v 0)) (.mul (.v 1) (.v 2)))) (.add (.mul (.v 0) (.v 1)) (.mul (.add .o .o) (.v 2))))) (.mul (.v 1) (.add (.add (.add (.mul (.add .o .o) (.v 0)) (.mul (.v 1) (.v 2))) (.sub (.mul (.add .o .o) (.add .o .o)) (.mul (.v 2) (.v 2)))) (.add (.mul (.add .o .o) (.v 1)) (.mul (.v 0) (.v 2)))))) (.mul (.neg (.add .o .o)) (.add (.add (.add (.mul (.v 0) (.v 1)) (.mul (.add .o .o) (.v 2))) (.add (.mul (.add .o .o) (.v 1)) (.mul (.v 0) (.v 2)))) (.sub (.mul (.add .o .o) (.add .o .o)) (.mul (.v 0) (.v 0)))))) (.mul (.add .o .o) (.sub (.add (.add (.add (.mul (.v 0) (.v 0)) (.mul (.v 1) (.v 1))) (.mul (.v 2) (.v 2))) (.mul (.mul (.v 0) (.v 1)) (.v 2))) (.add (.add (.add .o .o) .o) .o))) (by decide +kernel))
    rw [e]; exact up
end
theorem exists_tri_flat (m : Fin 3 → Fin 3 → Nat) (hs : ∀ i j, m i j = m j i) (h1 : ∀ i j, i ≠ j → m i j ≠ 1) : ∃ T : Tri Re, T.m = m ∧ ∀ i j, i ≠ j → 0 ≤ (1 + 1) - T.c i j := by
 have hf : ∃ f : Nat → Re, ∀ k, k ≠ 1 → Angle (f k) k ∧ 0 ≤ (1 + 1) - f k := by
  refine ⟨fun k => if h : k = 0 then 1 + 1 else if h : k ≠ 1 then (cosine_any k h).choose else 0, fun k hk => ?_⟩
  by_cases h0 : k = 0
  · subst h0
    simp only [dif_pos]
    refine ⟨parallel, ?_⟩
    have : (1 + 1 : Re) - (1 + 1) = 0 := (OR.ring [] (.sub (.add .o .o) (.add .o .o)) .z (by decide +kernel))
    rw [this]; exact OR.le_refl _
  · simp only [dif_neg h0, dif_pos hk]
    have := (cosine_any k hk).choose_spec
    exact ⟨this, OR.le_of_lt (OR.pos_sub.1 (this.zero h0).2.1)⟩
 obtain ⟨f, hf⟩ := hf
 refine ⟨{ c := fun i j => if i = j then -(1 + 1) else f (m i j), m := m, csym := ?_, msym := hs, cself := ?_, angle := ?_ }, rfl, ?_⟩
 · intro i j
   by_cases e : i = j
   · subst e; rfl
   · simp only [if_neg e, if_neg (fun h => e (Eq.symm h) : ¬ j = i), hs i j]
 · intro i
   simp only [if_true]
 · intro i j hij
   simp only [if_neg hij]
   exact (hf _ (h1 i j hij)).1
 · intro i j hij
   simp only [if_neg hij]
   exact (hf _ (h1 i j hij)).2
end Go.Proofs.Ytkndmibmmoikbaa.Cox
