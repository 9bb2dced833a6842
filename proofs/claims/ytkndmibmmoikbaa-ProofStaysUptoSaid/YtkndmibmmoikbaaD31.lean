/- Chapter 10: Bd0 Bd1 Bd2 Bd3 Bd4 Mk0 Mk3. -/
import Derived.Test.YtkndmibmmoikbaaD30
import Derived.Test.YtkndmibmmoikbaaD27
import Derived.Shelf.Strings.Builder1
import Derived.BigQuiet
set_option linter.all false
set_option maxRecDepth 100000
set_option maxHeartbeats 16000000
namespace Go.Proofs.Ytkndmibmmoikbaa
open Go.RowKit
open Cox (Tl)
theorem size144 : (Try.prog.info? 144).map (·.size) = some 2 := by kernel_rfl
theorem infob : Option.map (fun i => (i.zero, i.size, i.bytes)) (Try.prog.info? 5) = some (some (.int .u8 0), 1, 1) := by kernel_rfl
theorem copycheck_used (b : Nat) (w : World) (h0 : w.cell? ⟨b, 0, none⟩ = some (.pointer (some ⟨b, 0, none⟩))) :
 Calls Try.prog 78 #[.pointer (some ⟨b, 0, none⟩)] w fun e w' => e = .returned (.tuple #[]) ∧ w' = w := by
 obtain ⟨j, hj, _⟩ := Option.map_eq_some_iff.1 size144
 go_enter Try.func78, Try.ntmps78
 go_wp2
 rw [Lib.run_neq_ptr_same w _ Try.underlying142 hj]
 go_wp2
 go_end0
 exact ⟨rfl, rfl⟩
theorem copycheck_fresh (b : Nat) (w : World) (h0 : w.cell? ⟨b, 0, none⟩ = some (.pointer none)) (hsh : w.shape? b = some (144, 2)) (hfz : w.frozen? ⟨b, 0, none⟩ = false) :
 Calls Try.prog 78 #[.pointer (some ⟨b, 0, none⟩)] w fun e w' => e = .returned (.tuple #[]) ∧ w' = w.setCell ⟨b, 0, none⟩ (.pointer (some ⟨b, 0, none⟩)) := by
 obtain ⟨j, hj, hjs⟩ := Option.map_eq_some_iff.1 size144
 go_enter Try.func78, Try.ntmps78
 go_wp2
 rw [Lib.run_to_unsafe w ⟨b, 0, none⟩ Try.underlying142 Try.underlying158 hj (by rw [hjs]; decide) hsh (Nat.zero_lt_succ 1)]
 simp only [Result.andThen]
 rw [Oper.upon_value]
 go_wp2
 rw [run_callFunc_extern Try.func84 (by kernel_rfl) (by kernel_rfl) (by kernel_rfl) (e := Extern.AbiNoEscape.same) (by kernel_rfl)]
 rw [Lib.run_noEscape]
 simp only [Result.andThen]
 rw [Oper.upon_value]
 go_wp2
 rw [Lib.run_from_unsafe w ⟨b, 0, none⟩ Try.underlying158 Try.underlying142 hj hsh (by kernel_rfl)]
 simp only [Result.andThen]
 rw [Oper.upon_value]
 go_wp2
 go_end0
 exact ⟨rfl, rfl⟩
end Go.Proofs.Ytkndmibmmoikbaa
namespace Go.Proofs.Ytkndmibmmoikbaa
open Go.RowKit
open Cox (Tl)
theorem copycheck_any (B b : Nat) (bs : List Value) (w : World) (h : Lib.IsBuilder 144 5 B b bs w) :
 Calls Try.prog 78 #[.pointer (some ⟨b, 0, none⟩)] w fun e w' => e = .returned (.tuple #[]) ∧ (Lib.BuilderAt 144 5 B b (.pointer (some ⟨b, 0, none⟩)) bs w' ∧ Below B w w') := by
 rcases h with h | h
 · refine (copycheck_fresh b w h.cell0 h.shape h.frozen0).mono ?_
   rintro e w' ⟨rfl, rfl⟩
   exact ⟨rfl, h.used _, (Below.refl B w).setCell (p := ⟨b, 0, none⟩) h.1 _⟩
 · refine (copycheck_used b w h.cell0).mono ?_
   rintro e w' ⟨rfl, rfl⟩
   exact ⟨rfl, h, Below.refl B _⟩
theorem writebyte_any (B b : Nat) (bs : List Value) (c : Int) (w : World) (h : Lib.IsBuilder 144 5 B b bs w) (hlen : bs.length + 1 ≤ 100000) (hBw : B ≤ w.heap.size) :
 Calls Try.prog 70 #[.pointer (some ⟨b, 0, none⟩), .int .u8 c] w fun e w' => e = .returned .nilIface ∧ (Lib.BuilderAt 144 5 B b (.pointer (some ⟨b, 0, none⟩)) (bs ++ [.int .u8 c]) w' ∧ Below B w w') := by
 obtain ⟨i0, hi, hz0, hz1, hz2⟩ := info_parts infob
 go_enter Try.func70, Try.ntmps70
 go_wp2_with (go_at_call 78; refine (copycheck_any B b bs _ h).mono ?_)
 rintro e w1 ⟨rfl, h1, hb1⟩
 obtain ⟨hB, v, hbk, hown, hne⟩ := h1
 obtain ⟨pv, cv, hv⟩ := owns_form hown
 subst hv
 have c0 : w1.cell? ⟨b, 0, none⟩ = some (.pointer (some ⟨b, 0, none⟩)) := by rw [Lib.cell_of_heap hbk]; rfl
 have c1 : w1.cell? ⟨b, 1, none⟩ = some (.slice pv bs.length cv) := by rw [Lib.cell_of_heap hbk]; rfl
 have hlt : b < w1.heap.size := (Array.getElem?_eq_some_iff.1 hbk).1
 have HB := Hi (And.intro hB (And.intro hbk (And.intro hown (And.intro hne (And.intro hb1 hlt)))))
 have HOW := Hi (owns_keep (w' := w1.alloc (.cells #[.int .u8 c] 5)) hown (fun q hq => Below.heap_alloc _ _ _ (owns_lt hown hq).1))
 have HHS : Hid (B ≤ (w1.alloc (.cells #[.int .u8 c] 5)).heap.size) := Hi (by have := hb1.size; rw [World.size_alloc]; omega)
 have m1 : bs.length + 1 ≤ maxLen := by unfold maxLen; omega
 have m2 : (bs.length + 1) * 1 ≤ 140737488355328 := by omega
 clear hB hbk hown hne hb1 hlt h
 go_wp2_with (at_builtin; refine wpList_append_lies _ rfl (.tmp 11) (.tmp 13) 104 rfl B 5 i0 _ 1 1 Try.underlying104 hi hz0 hz1 hz2 rfl (by decide) (.slice pv bs.length cv) bs.length bs rfl HOW.out ⟨w1.heap.size, 0, none⟩ 1 1 [.int .u8 c] rfl rfl (World.news_of_block (str_new _ _ _ _ rfl)) (by intro u hu; simp at hu; subst hu; rfl) (by decide) m1 m2 HHS.out _ rfl ?_; intro g9 cap9 w2 hown9 hgr9 hat9 hlt9; have H9 := Hi (And.intro hown9 hgr9); have hb2 : w2.heap[b]? = some (.cells #[.pointer (some ⟨b, 0, none⟩), .slice pv bs.length cv] 144 (0, 0)) := (grown_keep hgr9 HB.out.2.2.2.2.2 HB.out.2.2.2.1).trans HB.out.2.1; have d1 : w2.cell? ⟨b, 1, none⟩ = some (.slice pv bs.length cv) := (by rw [Lib.cell_of_heap hb2]; rfl); have f1 := free_of hb2 1; have HB2 := Lib.hid hb2; clear hown9 hgr9 hat9 hlt9 hb2)
 go_ret
 refine ⟨rfl, ?_, ?_⟩
 · exact Lib.BuilderAt.put (T := 144) (e := 5) HB.out.1 HB2.out (bs' := bs ++ [.int .u8 c]) (by simpa using H9.out.1) (by decide)
 · have hb1 := HB.out.2.2.2.2.1
   exact ((hb1.alloc (by have := hb1.size; omega) _).grown H9.out.2 (by have := hb1.size; simp; omega) (fun k hk => (HB.out.2.2.1.lt k hk).1)).setCell (p := ⟨b, 1, none⟩) HB.out.1 _
theorem bstring_any (B b : Nat) (l : List UInt8) (w : World) (h : Lib.IsBuilder 144 5 B b (Lib.byteCells l) w) (h0 : l ≠ []) :
 Calls Try.prog 71 #[.pointer (some ⟨b, 0, none⟩)] w fun e w' => e = .returned (.string ⟨l.toArray⟩) ∧ Below B w w' := by
 obtain ⟨p, hB, v, hbk, hown, hne⟩ : ∃ p, Lib.BuilderAt 144 5 B b p (Lib.byteCells l) w := by
  rcases h with h | h
  · exact ⟨_, h⟩
  · exact ⟨_, h⟩
 have hl0 : l.length ≠ 0 := by simpa using h0
 rw [Lib.byteCells_length] at hown
 obtain ⟨g, cap, cur, rfl, hbg, hg, hnc, hcm, hcs, htake⟩ : ∃ g cap cur, v = .slice (some ⟨g, 0, none⟩) l.length cap ∧ B ≤ g ∧ w.heap[g]? = some (.cells cur 5 (0, 0)) ∧ l.length ≤ cap ∧ cap ≤ maxLen ∧ cur.size = cap * 1 ∧ cur.toList.take (l.length * 1) = Lib.byteCells l := by
  rcases hown.2 with ⟨_, hz⟩ | ⟨g, cap, cur, hv, r⟩
  · exact absurd hz hl0
  · exact ⟨g, cap, cur, hv, r⟩
 have c1 : w.drew.cell? ⟨b, 1, none⟩ = some (.slice (some ⟨g, 0, none⟩) l.length cap) := by
  have : w.drew.heap[b]? = some (.cells #[p, .slice (some ⟨g, 0, none⟩) l.length cap] 144 (0, 0)) := hbk
  rw [Lib.cell_of_heap this]; rfl
 have hSD : (Builtin.unsafeSliceData_ #[104] 153 #[.slice (some ⟨g, 0, none⟩) l.length cap]).run Try.prog w.drew = .ok (.pointer (some ⟨g, 0, none⟩)) w.drew :=
  Lib.run_unsafeSliceData_row _ _ _ _ _ _ (by omega)
 have hUS : (Builtin.unsafeString_ #[153, 3] 9 #[.pointer (some ⟨g, 0, none⟩), .int .i64 l.length]).run Try.prog w.drew = .ok (.string ⟨l.toArray⟩) (w.drew.freeze ⟨g, 0, none⟩ l.length) := by
  refine Lib.run_unsafeString_row w.drew 153 3 9 5 Try.underlying153 (by kernel_rfl) g cur.size (by have hg' : w.drew.heap[g]? = some (.cells cur 5 (0, 0)) := hg; simp [World.shape?, hg']) l h0 (by omega) (by unfold maxLen at hcm; omega) ?_
  intro j x hx
  have := hown.cells (g := g) rfl j (.int .u8 x.toNat) (by simp [Lib.byteCells, hx])
  exact this
 have mixed : Try.prog.follows Departure.mixedOrders = true := by kernel_rfl
 go_enter Try.func71, Try.ntmps71
 go_wp2
 go_region_o
 all_goals (go_wp2; go_ret; exact ⟨rfl, Lib.below_freeze (Below.drew (Below.refl B w)) (p := ⟨g, 0, none⟩) hbg _⟩)
end Go.Proofs.Ytkndmibmmoikbaa
namespace Go.Proofs.Ytkndmibmmoikbaa
open Go.RowKit
open Cox (Tl)
def rowl (i j : Fin 3) (n : Nat) : List (Fin 3) := (List.range n).map (alt i j)
theorem rowl_succ (i j : Fin 3) (n : Nat) : rowl i j (n + 1) = rowl i j n ++ [alt i j n] := by unfold rowl; rw [List.range_succ, List.map_append]; rfl
theorem rowl_len (i j : Fin 3) (n : Nat) : (rowl i j n).length = n := by unfold rowl; simp
def lbs (l : List (Fin 3)) : List UInt8 := l.map fun x => UInt8.ofNat x.val
theorem lbs_cells (l : List (Fin 3)) (x : Fin 3) : Lib.byteCells (lbs (l ++ [x])) = Lib.byteCells (lbs l) ++ [.int .u8 (x.val : Int)] := by
 unfold lbs Lib.byteCells
 rw [List.map_append, List.map_append]
 congr 1
 simp
 omega
theorem row_any (i j : Fin 3) (n : Nat) (h0 : 0 < n) (hn : n ≤ 1000) (w : World) :
 Calls Try.prog 57 #[.int .i64 (i.val : Int), .int .i64 (j.val : Int), .int .i64 (n : Int)] w fun e w' => e = .returned (.string (wb (rowl i j n))) ∧ Below w.heap.size w w' := by
 have hwr := fun x : Fin 3 => wrap_u8_fin x
 have HB0 : Hid (Lib.BuilderAt 144 5 w.heap.size w.heap.size (.pointer none) (Lib.byteCells (lbs (rowl i j 0))) (w.alloc (.cells #[.pointer none, .slice none 0 0] 144)) ∧ Below w.heap.size w (w.alloc (.cells #[.pointer none, .slice none 0 0] 144))) := Lib.hid ⟨⟨Nat.le_refl _, _, str_new _ _ _ _ rfl, ⟨rfl, .inl ⟨rfl, rfl⟩⟩, by simp [Value.ownBlock]⟩, (Below.refl _ _).alloc (Nat.le_refl _) _⟩
 go_enter Try.func57, Try.ntmps57
 go_wp2_with fail
 generalize w.alloc (.cells #[.pointer none, .slice none 0 0] 144) = wa at *
 go_loopw [0, 1, 9] (fun p q t wr => ∃ k : Nat, k ≤ n ∧ p = .int .i64 ((alt i j k).val : Int) ∧ q = .int .i64 ((alt j i k).val : Int) ∧ t = .int .i64 (k : Nat) ∧ Hid (Lib.IsBuilder 144 5 w.heap.size w.heap.size (Lib.byteCells (lbs (rowl i j k))) wr ∧ Below w.heap.size w wr)) (fun _ _ t _ => n - (intOf t).toNat)
 case atStart => exact ⟨0, by omega, rfl, rfl, rfl, Lib.hid ⟨.inl HB0.out.1, HB0.out.2⟩⟩
 case round =>
  obtain ⟨k, hk, rfl, rfl, rfl, HK⟩ := hrel
  by_cases hlt : k < n
  · have k1 : (k : Int) < (n : Int) := by omega
    have WB := Hi (writebyte_any w.heap.size w.heap.size _ ((alt i j k).val : Int) wr HK.out.1 (by unfold Lib.byteCells lbs; simp [rowl_len]; omega) HK.out.2.size)
    have hw1 := hwr (alt i j k)
    have HAL : Hid (alt j i k = alt i j (k + 1) ∧ alt i j k = alt j i (k + 1)) := Lib.hid ⟨(alt_succ i j k).symm, (alt_succ j i k).symm⟩
    have HRS := Hi (rowl_succ i j k)
    have HLT := Lib.hid hlt
    have HC := Hi (lbs_cells (rowl i j k) (alt i j k))
    generalize alt i j k = xa at *
    generalize alt j i k = xb at *
    clear hlt
    go_wp2_with (go_at_call 70; refine WB.out.mono ?_; rintro e w5 ⟨rfl, h5, hb5⟩; have H5 := Hi (And.intro h5 hb5); clear h5 hb5)
    go_roundw
    case rel => exact ⟨k + 1, by have := HLT.out; omega, by rw [HAL.out.1], by rw [HAL.out.2], by go_num, Lib.hid ⟨.inr (by rw [HRS.out, HC.out]; exact H5.out.1), HK.out.2.trans H5.out.2⟩⟩
    case measure =>
     have := HLT.out
     simp [intOf]; omega
  · have hke : k = n := by omega
    subst hke
    have k1 : ¬ (k : Int) < (k : Int) := by omega
    have ST := Hi (bstring_any w.heap.size w.heap.size (lbs (rowl i j k)) wr HK.out.1 (by
     intro e
     have := congrArg List.length e
     unfold lbs at this
     rw [List.length_map, rowl_len] at this
     simp at this; omega))
    have HST : Hid (wb (rowl i j k) = ⟨(lbs (rowl i j k)).toArray⟩) := Lib.hid rfl
    generalize alt i j k = xa at *
    generalize alt j i k = xb at *
    go_wp2_with (go_at_call 71; refine ST.out.mono ?_; rintro e w5 ⟨rfl, hb5⟩; have HB5 := Lib.hid hb5; clear hb5)
    go_ret
    exact ⟨by rw [HST.out]; rfl, HK.out.2.trans HB5.out⟩
end Go.Proofs.Ytkndmibmmoikbaa
namespace Go.Proofs.Ytkndmibmmoikbaa
open Go.RowKit
open Cox (Tl)
theorem prefix77 (s p : ByteArray) (hs : s.size ≤ maxLen) (hp : p.size ≤ maxLen) (w : World) :
 Calls Try.prog 77 #[.string s, .string p] w fun e w' => e = .returned (.bool (decide (p.size ≤ s.size) && ((s.extract 0 p.size).toList == p.toList))) ∧ w' = w := by
 unfold maxLen at hs hp
 by_cases h : p.size ≤ s.size
 · have d1 : decide (p.size ≤ s.size) = true := decide_eq_true h
   have i1 : (p.size : Int) ≤ (s.size : Int) := by omega
   have i2 : (0 : Int) ≤ (p.size : Int) := by omega
   rw [d1, Bool.true_and]
   go_enter Try.func77, Try.ntmps77
   go_wp2_with fail
   go_ret
   exact ⟨rfl, rfl⟩
 · have d1 : decide (p.size ≤ s.size) = false := decide_eq_false h
   have i1 : ¬ (p.size : Int) ≤ (s.size : Int) := by omega
   rw [d1, Bool.false_and]
   go_enter Try.func77, Try.ntmps77
   go_wp2_with fail
   go_ret
   exact ⟨rfl, rfl⟩
def pfx (s p : ByteArray) : Bool := decide (p.size ≤ s.size) && ((s.extract 0 p.size).toList == p.toList)
theorem prefix69 (s p : ByteArray) (hs : s.size ≤ maxLen) (hp : p.size ≤ maxLen) (w : World) :
 Calls Try.prog 69 #[.string s, .string p] w fun e w' => e = .returned (.bool (pfx s p)) ∧ w' = w := by
 have PX := Hi (fun w => prefix77 s p hs hp w)
 have HP : Hid (pfx s p = (decide (p.size ≤ s.size) && ((s.extract 0 p.size).toList == p.toList))) := Lib.hid rfl
 rw [← HP.out] at PX
 generalize pfx s p = bb at *
 go_enter Try.func69, Try.ntmps69
 go_wp2_with (go_at_call 77; refine (PX.out _).mono ?_; rintro e w5 ⟨rfl, h5⟩; subst w5)
 go_ret
 exact ⟨rfl, rfl⟩
theorem replaced_out (s o n : ByteArray) (k : Int) (hs : s.size ≤ 1000) (hk : k < 0 ∨ (s.size : Int) < k) (w : World) :
 Calls Try.prog 56 #[.string s, .int .i64 k, .string o, .string n] w fun e w' => e = .returned (.tuple #[.string ⟨#[]⟩, .bool false]) ∧ w' = w := by
 by_cases h1 : k < 0
 · have d1 : decide (k < 0) = true := decide_eq_true h1
   clear hk
   go_enter Try.func56, Try.ntmps56
   go_wp2_with fail
   go_ret2
   exact ⟨rfl, rfl⟩
 · have h2 : (s.size : Int) < k := by omega
   have d1 : decide (k < 0) = false := decide_eq_false h1
   have d2 : decide ((s.size : Int) < k) = true := decide_eq_true h2
   clear hk
   go_enter Try.func56, Try.ntmps56
   go_wp2_with fail
   go_ret2
   exact ⟨rfl, rfl⟩
theorem replaced_no (s o n : ByteArray) (k : Nat) (hs : s.size ≤ 1000) (ho : o.size ≤ 1000) (hk : k ≤ s.size) (hx : pfx (s.extract k s.size) o = false) (w : World) :
 Calls Try.prog 56 #[.string s, .int .i64 (k : Int), .string o, .string n] w fun e w' => e = .returned (.tuple #[.string ⟨#[]⟩, .bool false]) ∧ w' = w := by
 have PX := Hi (fun w => prefix69 (s.extract k s.size) o (by unfold maxLen; simp; omega) (by unfold maxLen; omega) w)
 rw [hx] at PX
 have d1 : decide ((k : Int) < 0) = false := decide_eq_false (by omega)
 have d2 : decide ((s.size : Int) < (k : Int)) = false := decide_eq_false (by omega)
 have i1 : (0 : Int) ≤ (k : Int) := by omega
 have i2 : (k : Int) ≤ (s.size : Int) := by omega
 clear hx
 go_enter Try.func56, Try.ntmps56
 go_wp2_with (go_at_call 69; refine (PX.out _).mono ?_; rintro e w5 ⟨rfl, h5⟩; subst w5)
 go_ret2
 exact ⟨rfl, rfl⟩
end Go.Proofs.Ytkndmibmmoikbaa
namespace Go.Proofs.Ytkndmibmmoikbaa
open Go.RowKit
open Cox (Tl)
theorem replaced_yes (s o n : ByteArray) (k : Nat) (hs : s.size ≤ 1000) (ho : o.size ≤ 1000) (hn : n.size ≤ 1000) (hk : k ≤ s.size) (hko : k + o.size ≤ s.size) (hx : pfx (s.extract k s.size) o = true) (w : World) :
 Calls Try.prog 56 #[.string s, .int .i64 (k : Int), .string o, .string n] w fun e w' => e = .returned (.tuple #[.string (s.extract 0 k ++ n ++ s.extract (k + o.size) s.size), .bool true]) ∧ Below w.heap.size w w' := by
 have PX := Hi (fun w => prefix69 (s.extract k s.size) o (by unfold maxLen; simp; omega) (by unfold maxLen; omega) w)
 rw [hx] at PX
 have d1 : decide ((k : Int) < 0) = false := decide_eq_false (by omega)
 have d2 : decide ((s.size : Int) < (k : Int)) = false := decide_eq_false (by omega)
 have i1 : (0 : Int) ≤ (k : Int) := by omega
 have i2 : (k : Int) ≤ (s.size : Int) := by omega
 have i3 : (0 : Int) ≤ (k : Int) + (o.size : Int) := by omega
 have i4 : (k : Int) + (o.size : Int) ≤ (s.size : Int) := by omega
 have w1_ : IntKind.i64.wrap ((k : Int) + (o.size : Int)) = (k : Int) + (o.size : Int) := by rw [IntKind.wrap_i64]; omega
 have t1 : ((k : Int) + (o.size : Int)).toNat = k + o.size := by omega
 have l1 : (s.extract 0 k).size = k := by simp; omega
 have l2 : ¬ 9223372036854775807 < (s.extract 0 k).size + n.size := by rw [l1]; omega
 have l3 : (s.extract 0 k ++ n).size = k + n.size := by rw [ByteArray.size_append, l1]
 have l4 : (s.extract (k + o.size) s.size).size = s.size - (k + o.size) := by simp
 have l5 : ¬ 9223372036854775807 < (s.extract 0 k ++ n).size + (s.extract (k + o.size) s.size).size := by rw [l3, l4]; omega
 clear hx
 go_enter Try.func56, Try.ntmps56
 go_upto_region 3 with (go_at_call 69; refine (PX.out _).mono ?_; rintro e w5 ⟨rfl, h5⟩; subst w5)
 go_quiet (fail)
 go_wp2_with fail
 go_ret2
 exact ⟨rfl, drewN_below _ _ _⟩
def repl (l : List (Fin 3)) (k : Int) (o n : List (Fin 3)) : Option (List (Fin 3)) :=
 if 0 ≤ k ∧ k ≤ l.length ∧ o <+: l.drop k.toNat then some (l.take k.toNat ++ n ++ l.drop (k.toNat + o.length)) else none
theorem wb_cut (l : List (Fin 3)) (a b : Nat) (hb : b ≤ l.length) : (wb l).extract a b = wb ((l.take b).drop a) := by
 unfold wb
 refine ByteArray.ext ?_
 rw [ByteArray.data_extract]
 simp [List.extract_toArray, List.extract_eq_take_drop, List.map_drop, List.map_take]
 rw [List.drop_take]
theorem wb_pfx (l o : List (Fin 3)) : pfx (wb l) (wb o) = decide (o <+: l) := by
 unfold pfx
 rw [wb_size, wb_size]
 by_cases h : o.length ≤ l.length
 · rw [decide_eq_true h, Bool.true_and, wb_cut l 0 o.length h, wb_beq, List.drop_zero]
   congr 1
   exact propext ⟨fun e => by rw [← e]; exact List.take_prefix _ _, fun e => (List.prefix_iff_eq_take.1 e).symm⟩
 · rw [decide_eq_false h, Bool.false_and]
   exact (decide_eq_false (fun e => h e.length_le)).symm
theorem replaced_any (l o n : List (Fin 3)) (k : Int) (hl : l.length ≤ 1000) (ho : o.length ≤ 1000) (hn : n.length ≤ 1000) (w : World) :
 Calls Try.prog 56 #[.string (wb l), .int .i64 k, .string (wb o), .string (wb n)] w fun e w' => e = .returned (.tuple #[.string (wb ((repl l k o n).getD [])), .bool (repl l k o n).isSome]) ∧ Below w.heap.size w w' := by
 by_cases h1 : 0 ≤ k ∧ k ≤ (l.length : Int)
 · obtain ⟨m, rfl⟩ : ∃ m : Nat, k = (m : Int) := ⟨k.toNat, by omega⟩
   have hm : m ≤ l.length := by omega
   have hx : pfx ((wb l).extract m (wb l).size) (wb o) = decide (o <+: l.drop m) := by
    rw [wb_size, wb_cut l m l.length (Nat.le_refl _), List.take_length, wb_pfx]
   by_cases h2 : o <+: l.drop m
   · have hr : repl l (m : Int) o n = some (l.take m ++ n ++ l.drop (m + o.length)) := by unfold repl; rw [if_pos ⟨by omega, by omega, by simpa using h2⟩]; simp
     rw [hr]
     have h3 := h2.length_le
     rw [List.length_drop] at h3
     refine (replaced_yes (wb l) (wb o) (wb n) m (by rw [wb_size]; exact hl) (by rw [wb_size]; exact ho) (by rw [wb_size]; exact hn) (by rw [wb_size]; exact hm) (by rw [wb_size, wb_size]; omega) (by rw [hx]; exact decide_eq_true h2) w).mono ?_
     rintro e w' ⟨rfl, hb⟩
     refine ⟨?_, hb⟩
     rw [wb_size, wb_size, wb_cut l 0 m hm, wb_cut l (m + o.length) l.length (Nat.le_refl _), List.take_length, List.drop_zero, wb_append, wb_append]
     rfl
   · have hr : repl l (m : Int) o n = none := by unfold repl; rw [if_neg]; rintro ⟨_, _, h⟩; exact h2 (by simpa using h)
     rw [hr]
     refine (replaced_no (wb l) (wb o) (wb n) m (by rw [wb_size]; exact hl) (by rw [wb_size]; exact ho) (by rw [wb_size]; exact hm) (by rw [hx]; exact decide_eq_false h2) w).mono ?_
     rintro e w' ⟨rfl, rfl⟩
     exact ⟨rfl, Below.refl _ _⟩
 · have hr : repl l k o n = none := by unfold repl; rw [if_neg]; rintro ⟨h2, h3, _⟩; exact h1 ⟨h2, h3⟩
   rw [hr]
   refine (replaced_out (wb l) (wb o) (wb n) k (by rw [wb_size]; exact hl) (by rw [wb_size]; omega) w).mono ?_
   rintro e w' ⟨rfl, rfl⟩
   exact ⟨rfl, Below.refl _ _⟩
end Go.Proofs.Ytkndmibmmoikbaa
namespace Go.Proofs.Ytkndmibmmoikbaa
open Go.RowKit
open Cox (Tl)
def sval (kd at_ i j : Int) : Value := .agg #[.int .i64 kd, .int .i64 at_, .int .i64 i, .int .i64 j]
theorem makers1_any (p : Value) (l : List (Fin 3)) (hl : l.length ≤ 1000) (kd at_ : Int) (i : Fin 3) (j : Int) (w : World) :
 Calls Try.prog 55 #[p, .string (wb l), sval kd at_ i.val j] w fun e w' => e = .returned (.tuple #[.string (wb ((repl l at_ (rowl i i 2) []).getD [])), .bool (repl l at_ (rowl i i 2) []).isSome]) ∧ Below w.heap.size w w' := by
 have RW_ := Hi (fun w => row_any i i 2 (by decide) (by decide) w)
 have RP := Hi (fun w => replaced_any l (rowl i i 2) [] at_ hl (by first | (rw [rowl_len]; decide) | simp) (by first | (rw [rowl_len]; decide) | simp) w)
 have hb0 := (Below.refl w.heap.size w).alloc (Nat.le_refl _) (.cells #[.int .i64 kd, .int .i64 at_, .int .i64 (i.val : Int), .int .i64 j] 43)
 have hc0 := str_new w #[.int .i64 kd, .int .i64 at_, .int .i64 (i.val : Int), .int .i64 j] 43 _ rfl
 have HE : Hid (wb [] = ⟨#[]⟩) := Lib.hid rfl
 obtain ⟨res, hres⟩ : ∃ res, repl l at_ (rowl i i 2) [] = res := ⟨_, rfl⟩
 rw [hres] at RP ⊢
 clear hres
 rw [HE.out] at RP
 generalize rowl i i 2 = ro at *
 unfold sval
 go_enter Try.func55, Try.ntmps55
 go_upto_region 1 with fail
 have HSZ := Hi (show w.heap.size ≤ (w.alloc (.cells #[.int .i64 kd, .int .i64 at_, .int .i64 (i.val : Int), .int .i64 j] 43)).heap.size from hb0.size)
 generalize w.alloc (.cells #[.int .i64 kd, .int .i64 at_, .int .i64 (i.val : Int), .int .i64 j] 43) = wa at *
 have HB0 := Lib.hid hb0
 have d1 : wa.drew.cell? ⟨w.heap.size, 1, none⟩ = some (.int .i64 at_) := by rw [cell_drew_own, cell_of hc0]; rfl
 have d2 : wa.drew.cell? ⟨w.heap.size, 2, none⟩ = some (.int .i64 (i.val : Int)) := by rw [cell_drew_own, cell_of hc0]; rfl
 clear hb0 hc0
 have HDR := Hi (HB0.out.trans ((Below.refl _ wa).drew))
 generalize hww : w.heap.size = b0 at d1 d2 ⊢
 refine wp_region_held_drew (S := fun w' => w'.cell? ⟨b0, 1, none⟩ = some (.int .i64 at_) ∧ w'.cell? ⟨b0, 2, none⟩ = some (.int .i64 (i.val : Int))) (by kernel_rfl) (⟨d1, d2⟩) (fun hHeld => ?_)
 refine ty 0 hHeld ?_
 try simp only [ly]
 refine ty 1 hHeld ?_
 try simp only [ly]
 refine ty 2 hHeld ?_
 try simp only [ly]
 refine ty 3 hHeld ?_
 try simp only [ly]
 refine ty 4 hHeld ?_
 try simp only [ly]
 refine ty 5 hHeld ?_
 try simp only [ly]
 refine ty 6 hHeld ?_
 try simp only [ly]
 refine take_step (i := 7) rfl (by kernel_rfl) (fun K' hK => ?_)
 go_simp
 go_at_call 57
 refine (RW_.out _).mono ?_
 rintro e w5 ⟨rfl, hb5⟩
 have HB5 := Lib.hid hb5
 have g1 := cell_stays hb5 d1
 have g2 := cell_stays hb5 d2
 clear hb5
 refine hK.out _ _ (⟨g1, g2⟩) (fun hHeld => ?_)
 clear hK K'
 try simp only [ly]
 refine take_step (i := 8) rfl (by kernel_rfl) (fun K' hK => ?_)
 go_simp
 go_at_call 56
 refine (RP.out _).mono ?_
 rintro e w6 ⟨rfl, hb6⟩
 have HB6 := Lib.hid hb6
 have k1 := cell_stays hb6 g1
 have k2 := cell_stays hb6 g2
 clear hb6
 refine hK.out _ _ (⟨k1, k2⟩) (fun hHeld => ?_)
 clear hK K'
 try simp only [ly]
 refine ty 9 hHeld ?_
 try simp only [ly]
 refine ty 10 hHeld ?_
 try simp only [ly]
 refine ty 11 hHeld ?_
 try simp only [ly]
 refine ty 12 hHeld ?_
 try simp only [ly]
 refine wpAnyH_done (by kernel_rfl) ?_ _
 subst hww
 have HEND := Hi (HDR.out.trans ((HB5.out.trans (HB6.out.mono HB5.out.size)).mono HDR.out.size))
 go_wp2_with fail
 go_ret2
 exact ⟨rfl, HEND.out⟩
theorem makers2_any (p : Value) (l : List (Fin 3)) (hl : l.length ≤ 1000) (kd at_ : Int) (i : Fin 3) (j : Int) (w : World) :
 Calls Try.prog 58 #[p, .string (wb l), sval kd at_ i.val j] w fun e w' => e = .returned (.tuple #[.string (wb ((repl l at_ [] (rowl i i 2)).getD [])), .bool (repl l at_ [] (rowl i i 2)).isSome]) ∧ Below w.heap.size w w' := by
 have RW_ := Hi (fun w => row_any i i 2 (by decide) (by decide) w)
 have RP := Hi (fun w => replaced_any l [] (rowl i i 2) at_ hl (by first | (rw [rowl_len]; decide) | simp) (by first | (rw [rowl_len]; decide) | simp) w)
 have hb0 := (Below.refl w.heap.size w).alloc (Nat.le_refl _) (.cells #[.int .i64 kd, .int .i64 at_, .int .i64 (i.val : Int), .int .i64 j] 43)
 have hc0 := str_new w #[.int .i64 kd, .int .i64 at_, .int .i64 (i.val : Int), .int .i64 j] 43 _ rfl
 have HE : Hid (wb [] = ⟨#[]⟩) := Lib.hid rfl
 obtain ⟨res, hres⟩ : ∃ res, repl l at_ [] (rowl i i 2) = res := ⟨_, rfl⟩
 rw [hres] at RP ⊢
 clear hres
 rw [HE.out] at RP
 generalize rowl i i 2 = ro at *
 unfold sval
 go_enter Try.func58, Try.ntmps58
 go_upto_region 1 with fail
 have HSZ := Hi (show w.heap.size ≤ (w.alloc (.cells #[.int .i64 kd, .int .i64 at_, .int .i64 (i.val : Int), .int .i64 j] 43)).heap.size from hb0.size)
 generalize w.alloc (.cells #[.int .i64 kd, .int .i64 at_, .int .i64 (i.val : Int), .int .i64 j] 43) = wa at *
 have HB0 := Lib.hid hb0
 have d1 : wa.drew.cell? ⟨w.heap.size, 1, none⟩ = some (.int .i64 at_) := by rw [cell_drew_own, cell_of hc0]; rfl
 have d2 : wa.drew.cell? ⟨w.heap.size, 2, none⟩ = some (.int .i64 (i.val : Int)) := by rw [cell_drew_own, cell_of hc0]; rfl
 clear hb0 hc0
 have HDR := Hi (HB0.out.trans ((Below.refl _ wa).drew))
 generalize hww : w.heap.size = b0 at d1 d2 ⊢
 refine wp_region_held_drew (S := fun w' => w'.cell? ⟨b0, 1, none⟩ = some (.int .i64 at_) ∧ w'.cell? ⟨b0, 2, none⟩ = some (.int .i64 (i.val : Int))) (by kernel_rfl) (⟨d1, d2⟩) (fun hHeld => ?_)
 refine ty 0 hHeld ?_
 try simp only [ly]
 refine ty 1 hHeld ?_
 try simp only [ly]
 refine ty 2 hHeld ?_
 try simp only [ly]
 refine ty 3 hHeld ?_
 try simp only [ly]
 refine ty 4 hHeld ?_
 try simp only [ly]
 refine ty 5 hHeld ?_
 try simp only [ly]
 refine ty 6 hHeld ?_
 try simp only [ly]
 refine take_step (i := 7) rfl (by kernel_rfl) (fun K' hK => ?_)
 go_simp
 go_at_call 57
 refine (RW_.out _).mono ?_
 rintro e w5 ⟨rfl, hb5⟩
 have HB5 := Lib.hid hb5
 have g1 := cell_stays hb5 d1
 have g2 := cell_stays hb5 d2
 clear hb5
 refine hK.out _ _ (⟨g1, g2⟩) (fun hHeld => ?_)
 clear hK K'
 try simp only [ly]
 refine take_step (i := 8) rfl (by kernel_rfl) (fun K' hK => ?_)
 go_simp
 go_at_call 56
 refine (RP.out _).mono ?_
 rintro e w6 ⟨rfl, hb6⟩
 have HB6 := Lib.hid hb6
 have k1 := cell_stays hb6 g1
 have k2 := cell_stays hb6 g2
 clear hb6
 refine hK.out _ _ (⟨k1, k2⟩) (fun hHeld => ?_)
 clear hK K'
 try simp only [ly]
 refine ty 9 hHeld ?_
 try simp only [ly]
 refine ty 10 hHeld ?_
 try simp only [ly]
 refine ty 11 hHeld ?_
 try simp only [ly]
 refine ty 12 hHeld ?_
 try simp only [ly]
 refine wpAnyH_done (by kernel_rfl) ?_ _
 subst hww
 have HEND := Hi (HDR.out.trans ((HB5.out.trans (HB6.out.mono HB5.out.size)).mono HDR.out.size))
 go_wp2_with fail
 go_ret2
 exact ⟨rfl, HEND.out⟩
end Go.Proofs.Ytkndmibmmoikbaa
namespace Go.Proofs.Ytkndmibmmoikbaa
open Go.RowKit
open Cox (Tl)
def turnR (a b c : Int) (l : List (Fin 3)) (at_ : Int) (i : Fin 3) (j : Int) : Option (List (Fin 3)) :=
 if 0 ≤ j ∧ j ≤ 2 then (if (i.val : Int) = j then none else if ordz a b c i.val j = 0 then none else repl l at_ (rowl i (mf j) (ordz a b c i.val j).toNat) (rowl (mf j) i (ordz a b c i.val j).toNat)) else none
theorem makers3_any (a b c : Int) (p F : Nat) (l : List (Fin 3)) (hl : l.length ≤ 1000) (kd at_ : Int) (i : Fin 3) (j : Int) (w : World) (hp : w.heap[p]? = some (.cells #[.int .i64 a, .int .i64 b, .int .i64 c, .pointer (some ⟨F, 0, none⟩)] 93 (0, 0))) (hm : 0 ≤ ordz a b c i.val j ∧ ordz a b c i.val j ≤ 100) :
 Calls Try.prog 59 #[.pointer (some ⟨p, 0, none⟩), .string (wb l), sval kd at_ i.val j] w fun e w' => e = .returned (.tuple #[.string (wb ((turnR a b c l at_ i j).getD [])), .bool (turnR a b c l at_ i j).isSome]) ∧ Below w.heap.size w w' := by
 have hb0 := (Below.refl w.heap.size w).alloc (Nat.le_refl _) (.cells #[.int .i64 kd, .int .i64 at_, .int .i64 (i.val : Int), .int .i64 j] 43)
 have hc0 := str_new w #[.int .i64 kd, .int .i64 at_, .int .i64 (i.val : Int), .int .i64 j] 43 _ rfl
 have hp1 := (hb0.block _ (Array.getElem?_eq_some_iff.1 hp).1).trans hp
 have HE : Hid (wb [] = ⟨#[]⟩) := Lib.hid rfl
 have IL := Hi (fun w => isletter_any j w)
 unfold sval
 by_cases hj : 0 ≤ j ∧ j ≤ 2
 case neg =>
  have hr : turnR a b c l at_ i j = none := by unfold turnR; rw [if_neg hj]
  rw [hr]
  rw [decide_eq_false hj] at IL
  clear hr hj
  go_enter Try.func59, Try.ntmps59
  go_upto_region 1 with fail
  generalize w.alloc (.cells #[.int .i64 kd, .int .i64 at_, .int .i64 (i.val : Int), .int .i64 j] 43) = wa at *
  have HB0 := Lib.hid hb0
  have d3 : wa.cell? ⟨w.heap.size, 3, none⟩ = some (.int .i64 j) := by rw [cell_of hc0]; rfl
  have d2 : wa.cell? ⟨w.heap.size, 2, none⟩ = some (.int .i64 (i.val : Int)) := by rw [cell_of hc0]; rfl
  clear hb0 hc0
  go_wp2_with (go_at_call 30; refine (IL.out _).mono ?_; rintro e w5 ⟨rfl, h5⟩; subst w5)
  go_ret2
  exact ⟨rfl, HB0.out⟩
 case pos =>
  have IL2 := IL
  rw [decide_eq_true hj] at IL2
  clear IL
  by_cases hij : (i.val : Int) = j
  case pos =>
   have hr : turnR a b c l at_ i j = none := by unfold turnR; rw [if_pos hj, if_pos hij]
   rw [hr]
   have e1 : ((i.val : Int) == j) = true := by simpa using hij
   clear hr hj hij
   go_enter Try.func59, Try.ntmps59
   go_upto_region 1 with fail
   generalize w.alloc (.cells #[.int .i64 kd, .int .i64 at_, .int .i64 (i.val : Int), .int .i64 j] 43) = wa at *
   have HB0 := Lib.hid hb0
   have d3 : wa.cell? ⟨w.heap.size, 3, none⟩ = some (.int .i64 j) := by rw [cell_of hc0]; rfl
   have d2 : wa.cell? ⟨w.heap.size, 2, none⟩ = some (.int .i64 (i.val : Int)) := by rw [cell_of hc0]; rfl
   clear hb0 hc0
   go_wp2_with (go_at_call 30; refine (IL2.out _).mono ?_; rintro e w5 ⟨rfl, h5⟩; subst w5)
   go_ret2
   exact ⟨rfl, HB0.out⟩
  case neg =>
   obtain ⟨fj, hfj⟩ : ∃ fj : Fin 3, j = (fj.val : Int) := ⟨mf j, mf_of hj⟩
   subst hfj
   have hne : i ≠ fj := fun e => hij (by rw [e])
   have e1 : ((i.val : Int) == (fj.val : Int)) = false := by simpa using hij
   have hmf : mf (fj.val : Int) = fj := by revert fj; intro fj; match fj with | 0 => intros; rfl | 1 => intros; rfl | 2 => intros; rfl
   have OA : Hid (∀ wx, wx.heap[p]? = some (.cells #[.int .i64 a, .int .i64 b, .int .i64 c, .pointer (some ⟨F, 0, none⟩)] 93 (0, 0)) → Calls Try.prog 50 #[.pointer (some ⟨p, 0, none⟩), .int .i64 (i.val : Int), .int .i64 (fj.val : Int)] wx fun e w' => e = .returned (.int .i64 (ordz a b c i.val fj.val)) ∧ ∃ n, w' = wx.drewN n) := Hi (fun wx h => order_any a b c p F i fj hne wx h)
   have hr : turnR a b c l at_ i fj.val = if ordz a b c i.val fj.val = 0 then none else repl l at_ (rowl i fj (ordz a b c i.val fj.val).toNat) (rowl fj i (ordz a b c i.val fj.val).toNat) := by unfold turnR; rw [if_pos hj, if_neg hij, hmf]
   have hbw : w.heap.size ≤ (w.alloc (.cells #[.int .i64 kd, .int .i64 at_, .int .i64 (i.val : Int), .int .i64 (fj.val : Int)] 43)).heap.size := hb0.size
   obtain ⟨m, hmm⟩ : ∃ m : Nat, ordz a b c i.val fj.val = (m : Int) := ⟨(ordz a b c i.val fj.val).toNat, by omega⟩
   rw [hmm] at OA hr hm
   by_cases hm0 : m = 0
   · subst hm0
     have hr2 : turnR a b c l at_ i fj.val = none := hr
     rw [hr2]
     clear hr hr2 hj hij hmf hmm hm hne
     go_enter Try.func59, Try.ntmps59
     go_upto_region 1 with fail
     generalize w.alloc (.cells #[.int .i64 kd, .int .i64 at_, .int .i64 (i.val : Int), .int .i64 (fj.val : Int)] 43) = wa at *
     have HB0 := Lib.hid hb0
     have HP1 := Lib.hid hp1
     have d3 : wa.cell? ⟨w.heap.size, 3, none⟩ = some (.int .i64 (fj.val : Int)) := by rw [cell_of hc0]; rfl
     have d2 : wa.cell? ⟨w.heap.size, 2, none⟩ = some (.int .i64 (i.val : Int)) := by rw [cell_of hc0]; rfl
     clear hb0 hc0 hp1
     go_wp2_with (first | (go_at_call 30; refine (IL2.out _).mono ?_; rintro e w5 ⟨rfl, h5⟩; subst w5) | (go_at_call 50; refine (OA.out _ HP1.out).mono ?_; rintro e w6 ⟨rfl, nn, rfl⟩))
     go_ret2
     exact ⟨rfl, HB0.out.trans ((drewN_below _ _ _).mono hbw)⟩
   · have hr2 : turnR a b c l at_ i fj.val = repl l at_ (rowl i fj m) (rowl fj i m) := by rw [hr, if_neg (by omega)]; simp
     rw [hr2]
     have R1 := Hi (fun w => row_any i fj m (by omega) (by omega) w)
     have R2 := Hi (fun w => row_any fj i m (by omega) (by omega) w)
     have RP := Hi (fun w => replaced_any l (rowl i fj m) (rowl fj i m) at_ hl (by rw [rowl_len]; omega) (by rw [rowl_len]; omega) w)
     obtain ⟨res, hres⟩ : ∃ res, repl l at_ (rowl i fj m) (rowl fj i m) = res := ⟨_, rfl⟩
     rw [hres] at RP ⊢
     generalize rowl i fj m = r1 at *
     generalize rowl fj i m = r2 at *
     have em : ((m : Int) == 0) = false := by simp; omega
     have em2 : ¬ (m : Int) = 0 := by omega
     clear hr hr2 hj hij hmf hmm hm hne hres
     go_enter Try.func59, Try.ntmps59
     go_upto_region 1 with fail
     generalize w.alloc (.cells #[.int .i64 kd, .int .i64 at_, .int .i64 (i.val : Int), .int .i64 (fj.val : Int)] 43) = wa at *
     have HB0 := Lib.hid hb0
     have HP1 := Lib.hid hp1
     have HC0 := Lib.hid hc0
     have d3 : wa.cell? ⟨w.heap.size, 3, none⟩ = some (.int .i64 (fj.val : Int)) := by rw [cell_of hc0]; rfl
     have d2 : wa.cell? ⟨w.heap.size, 2, none⟩ = some (.int .i64 (i.val : Int)) := by rw [cell_of hc0]; rfl
     clear hb0 hc0 hp1
     go_upto_region 3 with (first | (go_at_call 30; refine (IL2.out _).mono ?_; rintro e w5 ⟨rfl, h5⟩; subst w5) | (go_at_call 50; refine (OA.out _ HP1.out).mono ?_; rintro e w6 ⟨rfl, nn, rfl⟩))
     go_upto_region 4 with (go_at_call 50; refine (OA.out (wa.drewN nn) HP1.out).mono ?_; rintro e w6 ⟨rfl, n2, rfl⟩)
     have hdn : (wa.drewN (nn + n2)).drew.heap = wa.heap := rfl
     have HDR : Hid (Below w.heap.size w (wa.drewN (nn + n2)).drew) := Hi ((HB0.out.trans ((drewN_below _ wa (nn + n2)).mono hbw)).trans (Below.refl _ _).drew)
     generalize wa.drewN (nn + n2) = wb0 at *
     have hc3 : wb0.drew.heap[w.heap.size]? = some (.cells #[.int .i64 kd, .int .i64 at_, .int .i64 (i.val : Int), .int .i64 (fj.val : Int)] 43 (0, 0)) := by rw [hdn]; exact HC0.out
     have d1 : wb0.drew.cell? ⟨w.heap.size, 1, none⟩ = some (.int .i64 at_) := by rw [cell_of hc3]; rfl
     have d2 : wb0.drew.cell? ⟨w.heap.size, 2, none⟩ = some (.int .i64 (i.val : Int)) := by rw [cell_of hc3]; rfl
     have d3 : wb0.drew.cell? ⟨w.heap.size, 3, none⟩ = some (.int .i64 (fj.val : Int)) := by rw [cell_of hc3]; rfl
     clear hc3 hdn hbw
     generalize hww : w.heap.size = b0 at d1 d2 d3 ⊢
     refine e_begin (fun w' => w'.cell? ⟨b0, 1, none⟩ = some (.int .i64 at_) ∧ w'.cell? ⟨b0, 2, none⟩ = some (.int .i64 (i.val : Int)) ∧ w'.cell? ⟨b0, 3, none⟩ = some (.int .i64 (fj.val : Int))) 19 (by kernel_rfl) (⟨d1, d2, d3⟩) (fun hHeld => ?_)
     refine ey 0 hHeld ?_
     try simp only [ly]
     refine ey 1 hHeld ?_
     try simp only [ly]
     refine ey 2 hHeld ?_
     try simp only [ly]
     refine ey 3 hHeld ?_
     try simp only [ly]
     refine ey 4 hHeld ?_
     try simp only [ly]
     refine ey 5 hHeld ?_
     try simp only [ly]
     refine ey 6 hHeld ?_
     try simp only [ly]
     refine ey 7 hHeld ?_
     try simp only [ly]
     refine ey 9 hHeld ?_
     try simp only [ly]
     refine ey 10 hHeld ?_
     try simp only [ly]
     refine ey 11 hHeld ?_
     try simp only [ly]
     refine ey 12 hHeld ?_
     try simp only [ly]
     refine ey 13 hHeld ?_
     try simp only [ly]
     refine e_step (i := 8) rfl (by kernel_rfl) (fun K' hK => ?_)
     go_simp
     go_at_call 57
     with_reducible refine (R1.out _).mono ?_
     rintro e w5 ⟨rfl, hb5⟩
     have Hw5 := Lib.hid hb5
     obtain ⟨y0, y1, y2⟩ := hHeld
     have g0 := cell_stays hb5 y0
     have g1 := cell_stays hb5 y1
     have g2 := cell_stays hb5 y2
     clear hb5 y0 y1 y2
     refine hK.out _ _ (fun _ => ⟨g0, g1, g2⟩) (fun hH => ?_)
     have hHeld := hH (by decide)
     clear hK K' hH
     try simp only [ly]
     refine e_step (i := 14) rfl (by kernel_rfl) (fun K' hK => ?_)
     go_simp
     go_at_call 57
     with_reducible refine (R2.out _).mono ?_
     rintro e w6 ⟨rfl, hb5⟩
     have Hw6 := Lib.hid hb5
     obtain ⟨y0, y1, y2⟩ := hHeld
     have g0 := cell_stays hb5 y0
     have g1 := cell_stays hb5 y1
     have g2 := cell_stays hb5 y2
     clear hb5 y0 y1 y2
     refine hK.out _ _ (fun _ => ⟨g0, g1, g2⟩) (fun hH => ?_)
     have hHeld := hH (by decide)
     clear hK K' hH
     try simp only [ly]
     refine e_step (i := 15) rfl (by kernel_rfl) (fun K' hK => ?_)
     go_simp
     go_at_call 56
     with_reducible refine (RP.out _).mono ?_
     rintro e w7 ⟨rfl, hb5⟩
     have Hw7 := Lib.hid hb5
     obtain ⟨y0, y1, y2⟩ := hHeld
     have g0 := cell_stays hb5 y0
     have g1 := cell_stays hb5 y1
     have g2 := cell_stays hb5 y2
     clear hb5 y0 y1 y2
     refine hK.out _ _ (fun _ => ⟨g0, g1, g2⟩) (fun hH => ?_)
     have hHeld := hH (by decide)
     clear hK K' hH
     try simp only [ly]
     refine ey 16 hHeld ?_
     try simp only [ly]
     refine ey 17 hHeld ?_
     try simp only [ly]
     refine ey 18 hHeld ?_
     try simp only [ly]
     refine e_step (i := 19) rfl (by kernel_rfl) (fun K' hK => ?_)
     go_simp
     refine hK.out _ _ (fun h => (h rfl).elim) (fun _ => ?_)
     clear hK K'
     try simp only [ly]
     refine e_done (by kernel_rfl) ?_ _
     subst hww
     have HEND := Hi (HDR.out.trans ((Hw5.out.trans ((Hw6.out.trans (Hw7.out.mono Hw6.out.size)).mono Hw5.out.size)).mono HDR.out.size))
     go_wp2_with fail
     go_ret2
     exact ⟨rfl, HEND.out⟩
end Go.Proofs.Ytkndmibmmoikbaa
