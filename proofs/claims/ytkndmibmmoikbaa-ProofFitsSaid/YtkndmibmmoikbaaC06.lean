/- Chapter 10: Small3. -/
import Derived.Test.YtkndmibmmoikbaaC05
import Derived.Lib.ConvBytes
set_option linter.all false
set_option maxRecDepth 100000
set_option maxHeartbeats 16000000
namespace Go.Proofs.Ytkndmibmmoikbaa
open Go.RowKit
open Cox (Tl)
def badW (s : ByteArray) : Prop := ∃ (i : Nat) (h : i < s.size), 2 < (s[i]'h).toNat
noncomputable def cw (s : ByteArray) : Int := by
 classical
 exact if badW s then 1 else if 60 < s.size then 4 else 0
theorem cw_bad {s : ByteArray} (h : badW s) : cw s = 1 := by unfold cw; rw [if_pos h]
theorem cw_long {s : ByteArray} (h : ¬ badW s) (h2 : 60 < s.size) : cw s = 4 := by unfold cw; rw [if_neg h, if_pos h2]
theorem cw_ok {s : ByteArray} (h : ¬ badW s) (h2 : ¬ 60 < s.size) : cw s = 0 := by unfold cw; rw [if_neg h, if_neg h2]
theorem checkword_any (s : ByteArray) (hs : s.size ≤ maxLen) (w : World) : Calls Try.prog 64 #[.string s] w fun e w' => e = .returned (.int .i64 (cw s)) ∧ w' = w := by
 unfold maxLen at hs
 go_enter Try.func64, Try.ntmps64
 go_wp2_with fail
 go_loop [3] (fun t => ∃ k : Nat, k ≤ s.size ∧ t = .int .i64 k ∧ Hid (∀ (i : Nat) (h : i < s.size), i < k → (s[i]'h).toNat ≤ 2)) (fun t => s.size - (intOf t).toNat)
 case atStart => exact ⟨0, Nat.zero_le _, rfl, Lib.hid fun i _ hi => by omega⟩
 case round =>
  obtain ⟨k, hk, rfl, HK⟩ := hrel
  by_cases hlt : k < s.size
  · by_cases h2 : 2 < (s[k]'hlt).toNat
    · have HC := Hi (cw_bad ⟨k, hlt, h2⟩)
      go_wp2_with fail
      go_ret
      exact ⟨by rw [HC.out]; rfl, rfl⟩
    · have HN : Hid (∀ (i : Nat) (h : i < s.size), i < k + 1 → (s[i]'h).toNat ≤ 2) := Lib.hid fun i h hi => by
       by_cases e : i = k
       · subst e; omega
       · exact HK.out i h (by omega)
      go_wp2_with fail
      go_round
      case rel => exact ⟨k + 1, by omega, by go_num, HN⟩
      case measure => simp [intOf]; omega
  · have hg : ¬ badW s := by
     rintro ⟨i, h, h2⟩
     have := HK.out i h (by omega)
     omega
    by_cases h60 : 60 < s.size
    · have HC := Hi (cw_long hg h60)
      clear hg
      go_wp2_with fail
      go_ret
      exact ⟨by rw [HC.out]; rfl, rfl⟩
    · have HC := Hi (cw_ok hg h60)
      clear hg
      go_wp2_with fail
      go_ret
      exact ⟨by rw [HC.out]; rfl, rfl⟩
theorem wb_of {s : ByteArray} (h : ¬ badW s) : ∃ l : List (Fin 3), s = wb l := by
 have hl : ∀ l : List UInt8, (∀ x, x ∈ l → x.toNat ≤ 2) → ∃ r : List (Fin 3), l = r.map fun i => UInt8.ofNat i.val := by
  intro l
  induction l with
  | nil => intro _; exact ⟨[], rfl⟩
  | cons x l ih =>
   intro hx
   obtain ⟨r, hr⟩ := ih fun y hy => hx y (List.mem_cons_of_mem _ hy)
   have h2 := hx x (List.mem_cons_self)
   refine ⟨⟨x.toNat, by omega⟩ :: r, ?_⟩
   simp [hr]
 obtain ⟨r, hr⟩ := hl s.data.toList (by
  intro x hx
  obtain ⟨i, hi, rfl⟩ := List.getElem_of_mem hx
  have hi' : i < s.size := by simpa using hi
  exact Nat.le_of_not_lt fun h2 => h ⟨i, hi', h2⟩)
 refine ⟨r, ?_⟩
 apply ByteArray.ext
 show s.data = _
 rw [← Array.toList_inj, hr]
 simp [wb]
theorem cw_zero {s : ByteArray} (h : cw s = 0) : ∃ l : List (Fin 3), s = wb l ∧ l.length ≤ 60 := by
 by_cases hb : badW s
 · rw [cw_bad hb] at h; cases h
 · by_cases hl : 60 < s.size
   · rw [cw_long hb hl] at h; cases h
   · obtain ⟨l, rfl⟩ := wb_of hb
     rw [wb_size] at hl
     exact ⟨l, rfl, by omega⟩
noncomputable def cws : List ByteArray → Int
 | [] => 0
 | s :: l => if cw s = 0 then cws l else cw s
end Go.Proofs.Ytkndmibmmoikbaa
