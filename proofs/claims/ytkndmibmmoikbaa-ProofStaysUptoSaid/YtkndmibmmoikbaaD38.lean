/- Chapter 10: La3 La4. -/
import Derived.Test.YtkndmibmmoikbaaD35
import Derived.Test.YtkndmibmmoikbaaD37
import Derived.Test.YtkndmibmmoikbaaD30
set_option linter.all false
set_option maxRecDepth 100000
set_option maxHeartbeats 16000000
namespace Go.Proofs.Ytkndmibmmoikbaa
open Go.RowKit
open Cox (Tl)
theorem ords_three {K : Type} [Cox.OR K] {T : Cox.Tri K} {a b c : Nat} (hT : T.m = ords a b c) (h12 : a ≤ 12 ∧ b ≤ 12 ∧ c ≤ 12) {g : Fin 3 → K} (hg : Cox.Heavy T g) : Ords T a b c where
 lt i j := by
  rw [hT]
  unfold ords
  split
  · omega
  · split
    · omega
    · split <;> omega
 heavy := ⟨g, hg⟩
 eq := ords_say hT
theorem strs_one {w : World} {b n : Nat} {l : List ByteArray} (h : w.heap[b]? = some (.cells (l.map Value.string).toArray n (0, 0))) : StrsAt w (some ⟨b, 0, none⟩) l := by
 intro _
 refine ⟨b, 0, rfl, fun i hi => ?_⟩
 rw [cell_of h, Nat.zero_add]
 simp [List.getElem?_eq_getElem hi]
theorem b_rows {w : World} {x : Nat} (h : w.heap[x]? = some (.cells #[.string ⟨#[]⟩, .int .i64 1, .string ⟨#[]⟩, .int .i64 1, .string ⟨#[]⟩, .int .i64 2, .string ⟨#[]⟩, .int .i64 2, .string ⟨#[0]⟩, .int .i64 1, .string ⟨#[0]⟩, .int .i64 1, .string ⟨#[0]⟩, .int .i64 2, .string ⟨#[0]⟩, .int .i64 2] 41 (0, 0))) : PairsAt w (some ⟨x, 0, none⟩) bPairs := by
 intro _
 refine ⟨x, 0, rfl, fun i hi => ?_⟩
 have hi4 : i < 4 := hi
 rcases i with _ | _ | _ | _ | i
 · exact ⟨by rw [cell_of h]; rfl, by rw [cell_of h]; rfl, by rw [cell_of h]; rfl, by rw [cell_of h]; rfl⟩
 · exact ⟨by rw [cell_of h]; rfl, by rw [cell_of h]; rfl, by rw [cell_of h]; rfl, by rw [cell_of h]; rfl⟩
 · exact ⟨by rw [cell_of h]; rfl, by rw [cell_of h]; rfl, by rw [cell_of h]; rfl, by rw [cell_of h]; rfl⟩
 · exact ⟨by rw [cell_of h]; rfl, by rw [cell_of h]; rfl, by rw [cell_of h]; rfl, by rw [cell_of h]; rfl⟩
 · omega
theorem ints_three {w : World} {x : Nat} (h : w.heap[x]? = some (.cells #[.int .i64 1, .int .i64 3, .int .i64 1] 3 (0, 0))) : IntsAt w (some ⟨x, 0, none⟩) [1, 3, 1] := by
 intro _
 refine ⟨x, 0, rfl, fun i hi => ?_⟩
 have hi3 : i < 3 := hi
 rcases i with _ | _ | _ | i
 · rw [cell_of h]; rfl
 · rw [cell_of h]; rfl
 · rw [cell_of h]; rfl
 · omega
theorem small_size {s : ByteArray} (h : s = ⟨#[]⟩ ∨ s = ⟨#[0]⟩) : s.size ≤ maxLen := by
 rcases h with rfl | rfl
 · decide
 · decide
structure SaneC : Prop where
 one : ∀ w x, w.heap[x]? = some (.cells #[.int .i64 3, .int .i64 0, .int .i64 0, .int .i64 1] 43 (0, 0)) → Calls Try.prog 11 #[.agg #[.int .i64 3, .int .i64 7, .int .i64 2], .string ⟨#[0, 1, 0]⟩, .string ⟨#[1, 0, 1]⟩, .slice (some ⟨x, 0, none⟩) 1 1] w fun e w' => e = .returned (.int .i64 0) ∧ Below w.heap.size w w'
 two : ∀ w, Calls Try.prog 11 #[.agg #[.int .i64 3, .int .i64 7, .int .i64 2], .string ⟨#[0, 2]⟩, .string ⟨#[2, 0]⟩, .slice none 0 0] w fun e w' => e = .returned (.int .i64 20) ∧ Below w.heap.size w w'
 three : ∀ w x g0 cp pc g, w.heap[x]? = some (.cells #[.string ⟨#[]⟩] 9 (0, 0)) → PairsAt w (some ⟨g0, 0, none⟩) aPairs → CycsAt w (some ⟨pc, 0, none⟩) (aCys g) → Calls Try.prog 9 #[.agg #[.int .i64 3, .int .i64 7, .int .i64 2], .slice (some ⟨x, 0, none⟩) 1 1, .slice (some ⟨g0, 0, none⟩) 3 cp, .slice (some ⟨pc, 0, none⟩) 3 3] w fun e w' => e = .returned (.int .i64 0) ∧ Below w.heap.size w w'
 four : ∀ w x g0 cp pc g, w.heap[x]? = some (.cells #[.string ⟨#[]⟩] 9 (0, 0)) → PairsAt w (some ⟨g0, 0, none⟩) aPairs → CycsAt w (some ⟨pc, 0, none⟩) (aCys g) → Calls Try.prog 9 #[.agg #[.int .i64 3, .int .i64 7, .int .i64 2], .slice (some ⟨x, 0, none⟩) 1 1, .slice (some ⟨g0, 0, none⟩) 3 cp, .slice (some ⟨pc, 0, none⟩) 2 3] w fun e w' => e = .returned (.int .i64 20) ∧ Below w.heap.size w w'
 five : ∀ w x1 x2 x3, w.heap[x1]? = some (.cells #[.string ⟨#[]⟩, .string ⟨#[0]⟩] 9 (0, 0)) → w.heap[x2]? = some (.cells #[.string ⟨#[]⟩, .int .i64 1, .string ⟨#[]⟩, .int .i64 1, .string ⟨#[]⟩, .int .i64 2, .string ⟨#[]⟩, .int .i64 2, .string ⟨#[0]⟩, .int .i64 1, .string ⟨#[0]⟩, .int .i64 1, .string ⟨#[0]⟩, .int .i64 2, .string ⟨#[0]⟩, .int .i64 2] 41 (0, 0)) → w.heap[x3]? = some (.cells #[.int .i64 1, .int .i64 3, .int .i64 1] 3 (0, 0)) →
  Calls Try.prog 12 #[.agg #[.int .i64 3, .int .i64 7, .int .i64 2], .slice (some ⟨x1, 0, none⟩) 2 2, .slice (some ⟨x2, 0, none⟩) 4 4, .slice (some ⟨x3, 0, none⟩) 3 3] w fun e w' => e = .returned (.tuple #[.string ⟨#[]⟩, .string ⟨#[0]⟩, .int .i64 0]) ∧ Below w.heap.size w w'
theorem sane_c : SaneC := by
 obtain ⟨T, hT, g, hg⟩ := tri_heavy (a := 3) (b := 7) (c := 2) (by decide) (by decide) (by decide) (by decide) (by decide) (by decide) chk372
 have ho : Ords T 3 7 2 := ords_three hT (by decide) hg
 have hm : ∀ i j, i ≠ j → T.m i j ≠ 1 := by
  intro i j hij
  rw [hT]
  unfold ords
  rw [if_neg hij]
  split
  · decide
  · split <;> decide
 have h01 : T.m 0 1 = 3 := by rw [hT]; rfl
 have hbd : chk 3 7 2 = 0 → ((0 : Int) ≤ 3 ∧ (3 : Int) ≤ 100) ∧ ((0 : Int) ≤ 7 ∧ (7 : Int) ≤ 100) ∧ ((0 : Int) ≤ 2 ∧ (2 : Int) ≤ 100) := fun _ => by decide
 have hA : ∀ q, q ∈ aPairs → q.1.tile.size ≤ maxLen ∧ q.2.tile.size ≤ maxLen := by
  intro q hq
  simp only [aPairs, List.mem_cons, List.not_mem_nil, or_false] at hq
  rcases hq with rfl | rfl | rfl <;> exact ⟨small_size (.inl rfl), small_size (.inl rfl)⟩
 have hB : ∀ q, q ∈ bPairs → q.1.tile.size ≤ maxLen ∧ q.2.tile.size ≤ maxLen := by
  intro q hq
  simp only [bPairs, List.mem_cons, List.not_mem_nil, or_false] at hq
  rcases hq with rfl | rfl | rfl | rfl
  · exact ⟨small_size (.inl rfl), small_size (.inl rfl)⟩
  · exact ⟨small_size (.inl rfl), small_size (.inl rfl)⟩
  · exact ⟨small_size (.inr rfl), small_size (.inr rfl)⟩
  · exact ⟨small_size (.inr rfl), small_size (.inr rfl)⟩
 have hE : ∀ s, s ∈ [(⟨#[]⟩ : ByteArray)] → s.size ≤ maxLen := fun s hs => small_size (.inl (by simpa using hs))
 have hC : ∀ (g : Nat) y, y ∈ aCys g → y.y.tiles.length ≤ maxLen ∧ ∀ s, s ∈ y.y.tiles → s.size ≤ maxLen := by
  intro g y hy
  simp only [aCys, List.mem_cons, List.not_mem_nil, or_false] at hy
  rcases hy with rfl | rfl | rfl <;> exact ⟨by unfold maxLen; simp, hE⟩
 refine ⟨fun w x hx => ?_, fun w => ?_, fun w x g0 cp pc g hx hp hc => ?_, fun w x g0 cp pc g hx hp hc => ?_, fun w x1 x2 x3 h1 h2 h3 => ?_⟩
 · have h := steps_any 3 7 2 hbd ⟨#[0, 1, 0]⟩ ⟨#[1, 0, 1]⟩ [⟨3, 0, 0, 1⟩] (some ⟨x, 0, none⟩) 1 w (by decide) (by decide) (fun _ => ⟨x, 0, rfl, fun k hk => by
    have : k = 0 := by simpa using hk
    subst this
    exact ⟨by rw [cell_of hx]; rfl, by rw [cell_of hx]; rfl, by rw [cell_of hx]; rfl, by rw [cell_of hx]; rfl⟩⟩) (by unfold maxLen; simp)
   rw [steps_one] at h
   exact h
 · have h := steps_any 3 7 2 hbd ⟨#[0, 2]⟩ ⟨#[2, 0]⟩ [] none 0 w (by decide) (by decide) (fun h => absurd rfl h) (by unfold maxLen; simp)
   rw [steps_two] at h
   exact h
 · have h := fits_any T 3 7 2 (fun _ => ho) [⟨#[]⟩] aPairs (aCys g) (some ⟨x, 0, none⟩) (some ⟨g0, 0, none⟩) (some ⟨pc, 0, none⟩) 1 cp 3 w (strs_one (by simpa using hx)) hp hc (by unfold maxLen; simp) (by unfold maxLen; simp [aPairs]) (by unfold maxLen; simp [aCys]) hE hA (hC g)
   rw [fits_three hm g] at h
   exact h
 · have hc2 : CycsAt w (some ⟨pc, 0, none⟩) ((aCys g).take 2) := by
    intro _
    obtain ⟨b, o, hbo, hr⟩ := hc (by simp [aCys])
    refine ⟨b, o, hbo, fun i hi => ?_⟩
    have hi2 : i < 2 := hi
    rcases i with _ | _ | i
    · exact hr 0 (by show 0 < 3; omega)
    · exact hr 1 (by show 1 < 3; omega)
    · omega
   have h := fits_any T 3 7 2 (fun _ => ho) [⟨#[]⟩] aPairs ((aCys g).take 2) (some ⟨x, 0, none⟩) (some ⟨g0, 0, none⟩) (some ⟨pc, 0, none⟩) 1 cp 3 w (strs_one (by simpa using hx)) hp hc2 (by unfold maxLen; simp) (by unfold maxLen; simp [aPairs]) (by unfold maxLen; simp [aCys]) hE hA (fun y hy => hC g y (List.mem_of_mem_take hy))
   rw [fits_four hm g] at h
   exact h
 · have h := over_any T 3 7 2 (fun _ => ho) [⟨#[]⟩, ⟨#[0]⟩] bPairs [1, 3, 1] (some ⟨x1, 0, none⟩) (some ⟨x2, 0, none⟩) (some ⟨x3, 0, none⟩) 2 4 3 w (strs_one (by simpa using h1)) (b_rows h2) (ints_three h3) (by unfold maxLen; simp) (by unfold maxLen; simp [bPairs]) (by unfold maxLen; simp) (fun s hs => small_size (by simpa using hs)) hB
   rw [over_five hm h01] at h
   exact h
theorem sane_any (w : World) : Calls Try.prog 7 #[] w fun e w' => e = .returned (.bool true) ∧ Below w.heap.size w w' := by
 have SC := Lib.hid sane_c
 have KN := Lib.hid known_any
 unfold oval at KN
 have AL := Lib.hid alone_any
 go_enter Try.func7, Try.ntmps7
 go_upto_region 2 with (go_at_call 15; refine (KN.out _).mono ?_; rintro r w1 ⟨rfl, hb1⟩; have HB1 := Lib.hid hb1; clear hb1)
 have hb2 := (Below.refl w1.heap.size w1).alloc (Nat.le_refl _) (.cells #[.int .i64 3, .int .i64 7, .int .i64 2] 23)
 have hc2 := str_new w1 #[.int .i64 3, .int .i64 7, .int .i64 2] 23 _ rfl
 have HB2 := Hi (HB1.out.trans (hb2.mono HB1.out.size))
 have HC2 := Lib.hid hc2
 generalize w1.alloc (.cells #[.int .i64 3, .int .i64 7, .int .i64 2] 23) = w2 at *
 generalize w1.heap.size = bo at *
 clear hb2 hc2 HB1
 go_upto_region 3 with (go_at_call 16; refine (AL.out _).mono ?_; rintro r w3 ⟨g0, cp, pc, g, rfl, hp3, hc3, hb3⟩; have HB3 := Lib.hid hb3; have HP3 := Hi (And.intro hp3 hc3); have HC3 := Hi ((hb3.block _ (Array.getElem?_eq_some_iff.1 HC2.out).1).trans HC2.out); clear hp3 hc3 hb3)
 have HB4 := Hi (HB2.out.trans (HB3.out.mono HB2.out.size))
 clear HB2 HB3 HC2
 have d0 : w3.cell? ⟨bo, 0, none⟩ = some (.int .i64 3) := by rw [cell_of HC3.out]; rfl
 have d1 : w3.cell? ⟨bo, 1, none⟩ = some (.int .i64 7) := by rw [cell_of HC3.out]; rfl
 have d2 : w3.cell? ⟨bo, 2, none⟩ = some (.int .i64 2) := by rw [cell_of HC3.out]; rfl
 have S1 := Hi (SC.out.one (w3.alloc (.cells #[.int .i64 3, .int .i64 0, .int .i64 0, .int .i64 1] 43)) w3.heap.size (str_new _ _ _ _ rfl))
 have HX1 := Hi ((Below.refl w3.heap.size w3).alloc (Nat.le_refl _) (.cells #[.int .i64 3, .int .i64 0, .int .i64 0, .int .i64 1] 43))
 go_upto_region 4 with (go_at_call 11; with_reducible refine S1.out.mono ?_; rintro r w4 ⟨rfl, hb4⟩; have HB5 := Hi (HX1.out.trans (hb4.mono HX1.out.size)); clear hb4)
 clear S1 HX1
 have e0 := cell_stays HB5.out d0
 have e1 := cell_stays HB5.out d1
 have e2 := cell_stays HB5.out d2
 have S2 := Hi (SC.out.two w4)
 go_upto_region 5 with (go_at_call 11; with_reducible refine S2.out.mono ?_; rintro r w5 ⟨rfl, hb5⟩; have HB6 := Lib.hid hb5; clear hb5)
 clear S2
 have HB7 : Hid (Below w3.heap.size w3 w5) := Hi (HB5.out.trans (HB6.out.mono HB5.out.size))
 clear HB5 HB6 e0 e1 e2
 have e0 := cell_stays HB7.out d0
 have e1 := cell_stays HB7.out d1
 have e2 := cell_stays HB7.out d2
 have HX1 := Hi ((Below.refl w5.heap.size w5).alloc (Nat.le_refl _) (.cells #[.string ⟨#[]⟩] 9))
 have S3 := Hi (SC.out.three (w5.alloc (.cells #[.string ⟨#[]⟩] 9)) w5.heap.size g0 cp pc g (str_new _ _ _ _ rfl) ((HP3.out.1.below HB7.out).below HX1.out) ((HP3.out.2.below HB7.out).below HX1.out))
 go_upto_region 6 with (go_at_call 9; with_reducible refine S3.out.mono ?_; rintro r w6 ⟨rfl, hb6⟩; have HB8 := Hi (HB7.out.trans ((HX1.out.trans (hb6.mono HX1.out.size)).mono HB7.out.size)); clear hb6)
 clear S3 HX1 HB7 e0 e1 e2 d0 d1 d2
 refine sane_r6 (bo := bo) (g0 := g0) (cp := cp) (pc := pc) ((HB8.out.block _ (Array.getElem?_eq_some_iff.1 HC3.out).1).trans HC3.out) (fun wx hb => by
  have hx := (Below.refl wx.heap.size wx).alloc (Nat.le_refl _) (.cells #[.string ⟨#[]⟩] 9)
  exact SC.out.four (wx.alloc (.cells #[.string ⟨#[]⟩] 9)) wx.heap.size g0 cp pc g (str_new _ _ _ _ rfl) (((HP3.out.1.below HB8.out).below hb).below hx) (((HP3.out.2.below HB8.out).below hb).below hx)) (fun w7 n29 n30 n31 n32 n33 n34 hb7 => ?_)
 have HB9 := Hi (HB8.out.trans (hb7.mono HB8.out.size))
 clear hb7 HB8
 go_upto_region 8 with fail
 have hx1 := ((Below.refl w7.heap.size w7).alloc (Nat.le_refl _) (.cells #[.string ⟨#[0]⟩, .int .i64 1] 40)).alloc (by simp) (.cells #[.string ⟨#[0]⟩, .int .i64 2] 40)
 have hy1 := str_new (w7.alloc (.cells #[.string ⟨#[0]⟩, .int .i64 1] 40)) #[.string ⟨#[0]⟩, .int .i64 2] 40 (w7.heap.size + 1) (by simp)
 have hy2 : ((w7.alloc (.cells #[.string ⟨#[0]⟩, .int .i64 1] 40)).alloc (.cells #[.string ⟨#[0]⟩, .int .i64 2] 40)).heap[w7.heap.size]? = some (.cells #[.string ⟨#[0]⟩, .int .i64 1] 40 (0, 0)) := (Below.heap_alloc _ _ _ (by simp)).trans (str_new _ _ _ _ rfl)
 have HX := Hi (And.intro (HB9.out.trans (hx1.mono HB9.out.size)) (And.intro hy1 hy2))
 clear hx1 hy1 hy2 HB9
 generalize (w7.alloc (.cells #[.string ⟨#[0]⟩, .int .i64 1] 40)).alloc (.cells #[.string ⟨#[0]⟩, .int .i64 2] 40) = w8 at *
 refine sane_r8 (bo := bo) (g0 := g0) (cp := cp) (pc := pc) ((HX.out.1.block _ (Array.getElem?_eq_some_iff.1 HC3.out).1).trans HC3.out) (HP3.out.1.below HX.out.1) HX.out.2.2 HX.out.2.1 (fun wx x1 x2 x3 _ h1 h2 h3 => SC.out.five wx x1 x2 x3 h1 h2 h3) (fun w9 n37 n38 n39 n40 n41 n42 n43 n44 n45 n46 n47 n48 n49 n50 n51 n52 n53 n54 n55 n56 n57 hb9 => ?_)
 have HB10 := Hi (HB4.out.trans ((HX.out.1.trans (hb9.mono HX.out.1.size)).mono HB4.out.size))
 clear hb9 HX HB4 HP3 HC3
 go_wp2_with fail
 go_ret
 exact ⟨rfl, HB10.out⟩
end Go.Proofs.Ytkndmibmmoikbaa
namespace Go.Proofs.Ytkndmibmmoikbaa
open Go.RowKit
open Cox (Tl)
theorem world_of (a b c : Int) : ∃ W : Cox.Tri Cox.Re, (chk a b c = 0 → Ords W a b c) ∧ (chk a b c = 0 → RW W a b c) := by
 by_cases h : chk a b c = 0
 · obtain ⟨a', b', c', rfl, rfl, rfl, h1, h2, h3, h4, h5, h6⟩ := chk_nat h
   obtain ⟨T, hT, g, hg⟩ := tri_heavy h1 h2 h3 h4 h5 h6 h
   exact ⟨T, fun _ => ords_three hT ⟨h4, h5, h6⟩ hg, fun _ l hl w => rword_any T a' b' c' hT ⟨h4, h5, h6⟩ l hl w⟩
 · obtain ⟨T, _⟩ := tri_heavy (a := 3) (b := 7) (c := 2) (by decide) (by decide) (by decide) (by decide) (by decide) (by decide) chk372
   exact ⟨T, fun h2 => (h h2).elim, fun h2 => (h h2).elim⟩
end Go.Proofs.Ytkndmibmmoikbaa
