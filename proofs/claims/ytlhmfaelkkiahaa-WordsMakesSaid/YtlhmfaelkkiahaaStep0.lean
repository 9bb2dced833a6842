import Derived.Test.YtlhmfaelkkiahaaGrow1
namespace Go.Proofs.Ytlhmfaelkkiahaa
open Go.RowKit
open Cox (Tl)

set_option maxRecDepth 100000 in
set_option maxHeartbeats 4000000 in
theorem step_walk0 (m : Fin 3 → Fin 3 → Nat) (hm : ∀ i j, m i j < 100) (f : Nat) (hf : f < 1000000) (ih : StepSaid m f) (A : Nat → Nat) (st : List Tl) (x : Nat) (w : World) (st' : List Tl) (y p F : Nat) (hr : Rep w A st)
    (hp : w.heap[p]? = some (.cells (pcells m F) 65 (0, 0))) (hpA : ¬ In A st.length p) (nd : Tl) (hnx : st[x]? = some nd) (hts : nd.to 0 = none) (hstep : Cox.step m (f + 1) st x 0 = some (st', y)) :
    Calls Try.prog 44 #[.pointer (some ⟨p, 0, none⟩), .pointer (some ⟨A x, 0, none⟩), .int .i64 ((((0 : Fin 3).val : Nat)) : Int)] w fun e w' =>
      ∃ A', e = .returned (.pointer (some ⟨A' y, 0, none⟩)) ∧ y < st'.length ∧ Grows w A st w' A' st' := by
  obtain ⟨hlen, rfl, sa, sb, ra, rb, rc⟩ := step_none hstep hnx hts
  clear hstep
  have hx : x < st.length := (List.getElem?_eq_some_iff.1 hnx).1
  have hc := hr.cells x nd hnx
  have hal := hr.lt hx
  have hpl : p < w.heap.size := (Array.getElem?_eq_some_iff.1 hp).1
  have c0 := cell_of hc 0
  have c1 := cell_of hc 1
  simp [tcells] at c0 c1
  have hsz : ¬ 9223372036854775807 < (wb nd.word).size + (wb [0]).size := by rw [wb_size, wb_size]; simp; omega
  have hap := wb_append nd.word [0]
  have hcv := fun W b o => conv_byte 0 W ⟨b, o, none⟩ rfl
  have L0 := fresh_grows (s := 0) (nd := nd) hr 0
  have LK := link_grows (s := 0) L0 (x := x) (y := st.length) (by simp; omega) (by simp) (by omega) (ext1_old A _ hx) (ext1_new A _ _)
  clear L0
  -- what the rounds make
  obtain ⟨S, hrd, hs0, hs3⟩ : ∃ S : Nat → List Tl, (∀ t : Fin 3, Cox.round m f (Cox.step m f) (S t.val) x st.length 0 t = some (S (t.val + 1))) ∧ S 0 = Cox.link (st ++ [Cox.fresh nd 0]) x st.length 0 ∧ S 3 = st' := by
    refine ⟨fun k => if k = 0 then Cox.link (st ++ [Cox.fresh nd 0]) x st.length 0 else if k = 1 then sa else if k = 2 then sb else st', ?_, rfl, rfl⟩
    intro t
    match t with
    | 0 => exact ra
    | 1 => exact rb
    | 2 => exact rc
  have HS0 : Hid (st.length < (S 0).length) := Lib.hid (by rw [hs0, Cox.length_link]; simp)
  rw [← hs0] at LK
  clear ra rb rc hs0
  subst hs3
  have HRD := Lib.hid hrd
  have HP := Lib.hid hp
  have HM := Lib.hid hm
  have HPA := Lib.hid hpA
  have HXL := Lib.hid hx
  have IH := Lib.hid ih
  clear hr hc hp hnx hlen hrd hm hpA hx ih
  generalize ha : A x = a at *
  have HA := Lib.hid ha
  clear ha
  rw [hts] at c1
  simp only [pv] at c1
  have HT := Lib.hid hts
  clear hts
  go_enter Try.func44, Try.ntmps44
  go_wp2_with fail
  go_region
  go_wp2_with (go_at_call 46; refine LK.mono ?_; rintro e w1 ⟨rfl, hg⟩)
  have HG := Lib.hid hg
  clear hg c0 c1 hsz hap LK hcv
  go_loopw [43] (fun c wr => ∃ (k : Nat) (A' : Nat → Nat), k ≤ 3 ∧ c = .int .i64 k ∧ Hid (Grows w A st wr A' (S k) ∧ A' st.length = w.heap.size + 1 ∧ st.length < (S k).length)) (fun c _ => 3 - (intOf c).toNat)
  case atStart => exact ⟨0, _, by omega, rfl, Lib.hid ⟨HG.out, ext1_new _ _ _, HS0.out⟩⟩
  case round =>
    obtain ⟨k, A', hk, rfl, HK⟩ := hrel
    by_cases hlt : k < 3
    · have hk3 : k = 0 ∨ k = 1 ∨ k = 2 := by omega
      rcases hk3 with rfl | rfl | rfl
      · have hR := Cox.round_cases (HRD.out 0)
        rcases hR with ⟨h1, h2⟩ | ⟨h1, _⟩ | ⟨h1, _⟩
        · have H2 := Lib.hid h2
          clear h1 h2 hlt hk
          have pc := cell_of (HK.out.1.plane HP.out HPA.out).1 0
          simp [pcells] at pc
          go_wp2_with fail
          go_roundw
          case rel => exact ⟨1, A', by omega, by go_num, Lib.hid (by rw [show S 1 = S 0 from H2.out]; exact HK.out)⟩
          case measure => simp [intOf]
        · exact (h1 rfl).elim
        · exact (h1 rfl).elim
      · have hR := Cox.round_cases (HRD.out 1)
        rcases hR with ⟨h1, _⟩ | ⟨_, h1, h2⟩ | ⟨_, q, h1, h2⟩
        · cases h1
        · have H2 := Lib.hid h2
          have pc := cell_of (HK.out.1.plane HP.out HPA.out).1 1
          simp [pcells] at pc
          rw [h1] at pc
          clear h1 h2 hlt hk
          go_wp2_with fail
          go_roundw
          case rel => exact ⟨2, A', by omega, by go_num, Lib.hid (by rw [show S 2 = S 1 from H2.out]; exact HK.out)⟩
          case measure => simp [intOf]
        · have pc := cell_of (HK.out.1.plane HP.out HPA.out).1 1
          simp [pcells] at pc
          rw [h1] at pc
          have hq : q < 99 := by have := HM.out 0 1; omega
          rcases h2 with ⟨h2, h3⟩ | ⟨v, st2, z, nz, ny, e1, e2, e3, e4, e5, e6, e7⟩
          · have LW := lowest_any A' (S 1) x 1 0 q _ HK.out.1.rep none h2 (by omega)
            rw [HK.out.1.old x HXL.out, HA.out] at LW
            simp only [lres, pv, Option.isSome] at LW
            have H3 := Lib.hid h3
            clear h1 h2 h3 hlt hk
            go_wp2_with (go_at_call 47; refine LW.mono ?_; rintro e w2 ⟨rfl, rfl⟩)
            go_roundw
            case rel => exact ⟨2, A', by omega, by go_num, Lib.hid (by rw [show S 2 = S 1 from H3.out]; exact HK.out)⟩
            case measure => simp [intOf]
          · have LW := lowest_any A' (S 1) x 1 0 q _ HK.out.1.rep (some v) e1 (by omega)
            rw [HK.out.1.old x HXL.out, HA.out] at LW
            simp only [lres, pv, Option.isSome] at LW
            have hv : v < (S 1).length := lowest_lt HK.out.1.rep e1 (Nat.lt_of_lt_of_le HXL.out HK.out.1.len)
            have HF := Lib.hid (And.intro e3 (And.intro e4 (And.intro e6 e7)))
            have HE5 := Lib.hid e5
            have HV := Lib.hid hv
            clear e3 e4 e5 e6 e7 e1 hv
            by_cases hpar : (q + 1) % 2 = 0
            · rw [if_pos hpar, if_pos hpar] at e2
              have HC2 := Lib.hid e2
              have hpi : ((q : Int) + 1) % 2 = 0 := by omega
              clear e2 h1 hlt hk
              go_wp2_with (go_at_call 47; refine LW.mono ?_; rintro e w2 ⟨rfl, rfl⟩)
              clear hpi
              go_loopw [12, 13, 80] (fun zz ll cc wq => ∃ (j zj : Nat) (a' b' : Fin 3) (Aj : Nat → Nat) (stj : List Tl), j ≤ q ∧ zz = .pointer (some ⟨Aj zj, 0, none⟩) ∧ ll = .int .i64 (a'.val : Int) ∧ cc = .int .i64 j ∧ Hid (Cox.climb (Cox.step m f) (q - j) stj zj a' b' = some (st2, z) ∧ Grows w A st wq Aj stj ∧ Aj st.length = w.heap.size + 1 ∧ st.length < stj.length ∧ zj < stj.length) ∧ ((a' = 0 ∧ b' = 1) ∨ (a' = 1 ∧ b' = 0))) (fun _ _ cc _ => q - (intOf cc).toNat)
              case atStart => exact ⟨0, v, 0, 1, A', _, Nat.zero_le _, rfl, rfl, rfl, Lib.hid ⟨HC2.out, HK.out.1, HK.out.2.1, HK.out.2.2, HV.out⟩, by decide⟩
              case round =>
                obtain ⟨j, zj, a', b', Aj, stj, hj, rfl, rfl, rfl, HJ, hab⟩ := hrel
                by_cases hjq : j < q
                · obtain ⟨r, hr⟩ : ∃ r, q - j = r + 1 := ⟨q - j - 1, by omega⟩
                  have hcl := HJ.out.1
                  rw [hr] at hcl
                  obtain ⟨sj1, x1, hs1, hc1⟩ := Cox.climb_succ hcl
                  have hpl2 := HJ.out.2.1.plane HP.out HPA.out
                  have CS := IH.out Aj stj zj a' _ sj1 x1 p F HJ.out.2.1.rep HJ.out.2.2.2.2 hpl2.1 hpl2.2 hs1
                  have hr2 : q - (j + 1) = r := by omega
                  have HR2 := Lib.hid hr2
                  have HC1 := Lib.hid hc1
                  clear hr hcl hs1 hc1 hpl2 hr2
                  rcases hab with ⟨rfl, rfl⟩ | ⟨rfl, rfl⟩
                  · go_wp2_with (go_at_call 44; refine CS.mono ?_; rintro e w3 ⟨A3, rfl, hx3, hg3⟩)
                    have HG3 := Lib.hid hg3
                    clear hg3
                    go_wp2_with fail
                    go_roundw
                    case rel => exact ⟨j + 1, x1, 1, 0, A3, sj1, by omega, rfl, rfl, by go_num, Lib.hid ⟨by rw [HR2.out]; exact HC1.out, HJ.out.2.1.trans HG3.out, by rw [HG3.out.old _ HJ.out.2.2.2.1]; exact HJ.out.2.2.1, Nat.lt_of_lt_of_le HJ.out.2.2.2.1 HG3.out.len, hx3⟩, by decide⟩
                    case measure => simp [intOf]; omega
                  · go_wp2_with (go_at_call 44; refine CS.mono ?_; rintro e w3 ⟨A3, rfl, hx3, hg3⟩)
                    have HG3 := Lib.hid hg3
                    clear hg3
                    go_wp2_with fail
                    go_roundw
                    case rel => exact ⟨j + 1, x1, 0, 1, A3, sj1, by omega, rfl, rfl, by go_num, Lib.hid ⟨by rw [HR2.out]; exact HC1.out, HJ.out.2.1.trans HG3.out, by rw [HG3.out.old _ HJ.out.2.2.2.1]; exact HJ.out.2.2.1, Nat.lt_of_lt_of_le HJ.out.2.2.2.1 HG3.out.len, hx3⟩, by decide⟩
                    case measure => simp [intOf]; omega
                · have hj0 : q - j = 0 := by omega
                  have hcl := HJ.out.1
                  rw [hj0] at hcl
                  simp only [Cox.climb, Option.some.injEq, Prod.mk.injEq] at hcl
                  obtain ⟨rfl, rfl⟩ := hcl
                  have LZ := link_grows HJ.out.2.1 (s := 1) HJ.out.2.2.2.2 HJ.out.2.2.2.1 HE5.out rfl HJ.out.2.2.1
                  have hcv4 := fun W b o => conv_byte 1 W ⟨b, o, none⟩ rfl
                  have hap4 := wb_append nz.word [1]
                  have hsz4 : ¬ 9223372036854775807 < (wb nz.word).size + (wb [1]).size := by rw [wb_size, wb_size]; have := HF.out.2.2.1; simp; omega
                  clear hj0
                  go_wp2_with (go_at_call 46; refine LZ.mono ?_; rintro e w4 ⟨rfl, hg4⟩)
                  have c0z := cell_of (hg4.rep.cells _ nz HF.out.1) 0
                  have c0y := cell_of (hg4.rep.cells _ ny HF.out.2.1) 0
                  have fy := free_of (hg4.rep.cells _ ny HF.out.2.1) 0
                  rw [HJ.out.2.2.1] at c0y fy
                  have lz := hg4.rep.lt (List.getElem?_eq_some_iff.1 HF.out.1).1
                  have ly := hg4.rep.lt (List.getElem?_eq_some_iff.1 HF.out.2.1).1
                  rw [HJ.out.2.2.1] at ly
                  simp [tcells] at c0z c0y
                  have HG4 := Lib.hid hg4
                  clear hg4 LZ
                  rcases HF.out.2.2.2 with ⟨hl, hS⟩ | ⟨hl, hS⟩
                  · rw [← less_wb] at hl
                    have HS4 := Lib.hid hS
                    clear hS
                    go_region
                    go_wp2_with fail
                    go_roundw
                    case rel => exact ⟨2, Aj, by omega, by go_num, Lib.hid ⟨by rw [show S 2 = _ from HS4.out]; exact alloc_grows (word_grows HG4.out (by rw [Cox.length_link]; exact HJ.out.2.2.2.1) _ HJ.out.2.2.1) _, HJ.out.2.2.1, by rw [show S 2 = _ from HS4.out, List.length_modify, Cox.length_link]; exact HJ.out.2.2.2.1⟩⟩
                    case measure => simp [intOf]
                  · rw [← less_wb] at hl
                    have HS4 := Lib.hid hS
                    clear hS
                    go_region
                    go_wp2_with fail
                    go_roundw
                    case rel => exact ⟨2, Aj, by omega, by go_num, Lib.hid ⟨by rw [show S 2 = _ from HS4.out]; exact alloc_grows HG4.out _, HJ.out.2.2.1, by rw [show S 2 = _ from HS4.out, Cox.length_link]; exact HJ.out.2.2.2.1⟩⟩
                    case measure => simp [intOf]
            · rw [if_neg hpar, if_neg hpar] at e2
              have HC2 := Lib.hid e2
              have hpi : ((q : Int) + 1) % 2 = 1 := by omega
              clear e2 h1 hlt hk
              go_wp2_with (go_at_call 47; refine LW.mono ?_; rintro e w2 ⟨rfl, rfl⟩)
              clear hpi
              go_loopw [12, 13, 80] (fun zz ll cc wq => ∃ (j zj : Nat) (a' b' : Fin 3) (Aj : Nat → Nat) (stj : List Tl), j ≤ q ∧ zz = .pointer (some ⟨Aj zj, 0, none⟩) ∧ ll = .int .i64 (a'.val : Int) ∧ cc = .int .i64 j ∧ Hid (Cox.climb (Cox.step m f) (q - j) stj zj a' b' = some (st2, z) ∧ Grows w A st wq Aj stj ∧ Aj st.length = w.heap.size + 1 ∧ st.length < stj.length ∧ zj < stj.length) ∧ ((a' = 0 ∧ b' = 1) ∨ (a' = 1 ∧ b' = 0))) (fun _ _ cc _ => q - (intOf cc).toNat)
              case atStart => exact ⟨0, v, 1, 0, A', _, Nat.zero_le _, rfl, rfl, rfl, Lib.hid ⟨HC2.out, HK.out.1, HK.out.2.1, HK.out.2.2, HV.out⟩, by decide⟩
              case round =>
                obtain ⟨j, zj, a', b', Aj, stj, hj, rfl, rfl, rfl, HJ, hab⟩ := hrel
                by_cases hjq : j < q
                · obtain ⟨r, hr⟩ : ∃ r, q - j = r + 1 := ⟨q - j - 1, by omega⟩
                  have hcl := HJ.out.1
                  rw [hr] at hcl
                  obtain ⟨sj1, x1, hs1, hc1⟩ := Cox.climb_succ hcl
                  have hpl2 := HJ.out.2.1.plane HP.out HPA.out
                  have CS := IH.out Aj stj zj a' _ sj1 x1 p F HJ.out.2.1.rep HJ.out.2.2.2.2 hpl2.1 hpl2.2 hs1
                  have hr2 : q - (j + 1) = r := by omega
                  have HR2 := Lib.hid hr2
                  have HC1 := Lib.hid hc1
                  clear hr hcl hs1 hc1 hpl2 hr2
                  rcases hab with ⟨rfl, rfl⟩ | ⟨rfl, rfl⟩
                  · go_wp2_with (go_at_call 44; refine CS.mono ?_; rintro e w3 ⟨A3, rfl, hx3, hg3⟩)
                    have HG3 := Lib.hid hg3
                    clear hg3
                    go_wp2_with fail
                    go_roundw
                    case rel => exact ⟨j + 1, x1, 1, 0, A3, sj1, by omega, rfl, rfl, by go_num, Lib.hid ⟨by rw [HR2.out]; exact HC1.out, HJ.out.2.1.trans HG3.out, by rw [HG3.out.old _ HJ.out.2.2.2.1]; exact HJ.out.2.2.1, Nat.lt_of_lt_of_le HJ.out.2.2.2.1 HG3.out.len, hx3⟩, by decide⟩
                    case measure => simp [intOf]; omega
                  · go_wp2_with (go_at_call 44; refine CS.mono ?_; rintro e w3 ⟨A3, rfl, hx3, hg3⟩)
                    have HG3 := Lib.hid hg3
                    clear hg3
                    go_wp2_with fail
                    go_roundw
                    case rel => exact ⟨j + 1, x1, 0, 1, A3, sj1, by omega, rfl, rfl, by go_num, Lib.hid ⟨by rw [HR2.out]; exact HC1.out, HJ.out.2.1.trans HG3.out, by rw [HG3.out.old _ HJ.out.2.2.2.1]; exact HJ.out.2.2.1, Nat.lt_of_lt_of_le HJ.out.2.2.2.1 HG3.out.len, hx3⟩, by decide⟩
                    case measure => simp [intOf]; omega
                · have hj0 : q - j = 0 := by omega
                  have hcl := HJ.out.1
                  rw [hj0] at hcl
                  simp only [Cox.climb, Option.some.injEq, Prod.mk.injEq] at hcl
                  obtain ⟨rfl, rfl⟩ := hcl
                  have LZ := link_grows HJ.out.2.1 (s := 1) HJ.out.2.2.2.2 HJ.out.2.2.2.1 HE5.out rfl HJ.out.2.2.1
                  have hcv4 := fun W b o => conv_byte 1 W ⟨b, o, none⟩ rfl
                  have hap4 := wb_append nz.word [1]
                  have hsz4 : ¬ 9223372036854775807 < (wb nz.word).size + (wb [1]).size := by rw [wb_size, wb_size]; have := HF.out.2.2.1; simp; omega
                  clear hj0
                  go_wp2_with (go_at_call 46; refine LZ.mono ?_; rintro e w4 ⟨rfl, hg4⟩)
                  have c0z := cell_of (hg4.rep.cells _ nz HF.out.1) 0
                  have c0y := cell_of (hg4.rep.cells _ ny HF.out.2.1) 0
                  have fy := free_of (hg4.rep.cells _ ny HF.out.2.1) 0
                  rw [HJ.out.2.2.1] at c0y fy
                  have lz := hg4.rep.lt (List.getElem?_eq_some_iff.1 HF.out.1).1
                  have ly := hg4.rep.lt (List.getElem?_eq_some_iff.1 HF.out.2.1).1
                  rw [HJ.out.2.2.1] at ly
                  simp [tcells] at c0z c0y
                  have HG4 := Lib.hid hg4
                  clear hg4 LZ
                  rcases HF.out.2.2.2 with ⟨hl, hS⟩ | ⟨hl, hS⟩
                  · rw [← less_wb] at hl
                    have HS4 := Lib.hid hS
                    clear hS
                    go_region
                    go_wp2_with fail
                    go_roundw
                    case rel => exact ⟨2, Aj, by omega, by go_num, Lib.hid ⟨by rw [show S 2 = _ from HS4.out]; exact alloc_grows (word_grows HG4.out (by rw [Cox.length_link]; exact HJ.out.2.2.2.1) _ HJ.out.2.2.1) _, HJ.out.2.2.1, by rw [show S 2 = _ from HS4.out, List.length_modify, Cox.length_link]; exact HJ.out.2.2.2.1⟩⟩
                    case measure => simp [intOf]
                  · rw [← less_wb] at hl
                    have HS4 := Lib.hid hS
                    clear hS
                    go_region
                    go_wp2_with fail
                    go_roundw
                    case rel => exact ⟨2, Aj, by omega, by go_num, Lib.hid ⟨by rw [show S 2 = _ from HS4.out]; exact alloc_grows HG4.out _, HJ.out.2.2.1, by rw [show S 2 = _ from HS4.out, Cox.length_link]; exact HJ.out.2.2.2.1⟩⟩
                    case measure => simp [intOf]
      · have hR := Cox.round_cases (HRD.out 2)
        rcases hR with ⟨h1, _⟩ | ⟨_, h1, h2⟩ | ⟨_, q, h1, h2⟩
        · cases h1
        · have H2 := Lib.hid h2
          have pc := cell_of (HK.out.1.plane HP.out HPA.out).1 2
          simp [pcells] at pc
          rw [h1] at pc
          clear h1 h2 hlt hk
          go_wp2_with fail
          go_roundw
          case rel => exact ⟨3, A', by omega, by go_num, Lib.hid (by rw [show S 3 = S 2 from H2.out]; exact HK.out)⟩
          case measure => simp [intOf]
        · have pc := cell_of (HK.out.1.plane HP.out HPA.out).1 2
          simp [pcells] at pc
          rw [h1] at pc
          have hq : q < 99 := by have := HM.out 0 2; omega
          rcases h2 with ⟨h2, h3⟩ | ⟨v, st2, z, nz, ny, e1, e2, e3, e4, e5, e6, e7⟩
          · have LW := lowest_any A' (S 2) x 2 0 q _ HK.out.1.rep none h2 (by omega)
            rw [HK.out.1.old x HXL.out, HA.out] at LW
            simp only [lres, pv, Option.isSome] at LW
            have H3 := Lib.hid h3
            clear h1 h2 h3 hlt hk
            go_wp2_with (go_at_call 47; refine LW.mono ?_; rintro e w2 ⟨rfl, rfl⟩)
            go_roundw
            case rel => exact ⟨3, A', by omega, by go_num, Lib.hid (by rw [show S 3 = S 2 from H3.out]; exact HK.out)⟩
            case measure => simp [intOf]
          · have LW := lowest_any A' (S 2) x 2 0 q _ HK.out.1.rep (some v) e1 (by omega)
            rw [HK.out.1.old x HXL.out, HA.out] at LW
            simp only [lres, pv, Option.isSome] at LW
            have hv : v < (S 2).length := lowest_lt HK.out.1.rep e1 (Nat.lt_of_lt_of_le HXL.out HK.out.1.len)
            have HF := Lib.hid (And.intro e3 (And.intro e4 (And.intro e6 e7)))
            have HE5 := Lib.hid e5
            have HV := Lib.hid hv
            clear e3 e4 e5 e6 e7 e1 hv
            by_cases hpar : (q + 1) % 2 = 0
            · rw [if_pos hpar, if_pos hpar] at e2
              have HC2 := Lib.hid e2
              have hpi : ((q : Int) + 1) % 2 = 0 := by omega
              clear e2 h1 hlt hk
              go_wp2_with (go_at_call 47; refine LW.mono ?_; rintro e w2 ⟨rfl, rfl⟩)
              clear hpi
              go_loopw [12, 13, 80] (fun zz ll cc wq => ∃ (j zj : Nat) (a' b' : Fin 3) (Aj : Nat → Nat) (stj : List Tl), j ≤ q ∧ zz = .pointer (some ⟨Aj zj, 0, none⟩) ∧ ll = .int .i64 (a'.val : Int) ∧ cc = .int .i64 j ∧ Hid (Cox.climb (Cox.step m f) (q - j) stj zj a' b' = some (st2, z) ∧ Grows w A st wq Aj stj ∧ Aj st.length = w.heap.size + 1 ∧ st.length < stj.length ∧ zj < stj.length) ∧ ((a' = 0 ∧ b' = 2) ∨ (a' = 2 ∧ b' = 0))) (fun _ _ cc _ => q - (intOf cc).toNat)
              case atStart => exact ⟨0, v, 0, 2, A', _, Nat.zero_le _, rfl, rfl, rfl, Lib.hid ⟨HC2.out, HK.out.1, HK.out.2.1, HK.out.2.2, HV.out⟩, by decide⟩
              case round =>
                obtain ⟨j, zj, a', b', Aj, stj, hj, rfl, rfl, rfl, HJ, hab⟩ := hrel
                by_cases hjq : j < q
                · obtain ⟨r, hr⟩ : ∃ r, q - j = r + 1 := ⟨q - j - 1, by omega⟩
                  have hcl := HJ.out.1
                  rw [hr] at hcl
                  obtain ⟨sj1, x1, hs1, hc1⟩ := Cox.climb_succ hcl
                  have hpl2 := HJ.out.2.1.plane HP.out HPA.out
                  have CS := IH.out Aj stj zj a' _ sj1 x1 p F HJ.out.2.1.rep HJ.out.2.2.2.2 hpl2.1 hpl2.2 hs1
                  have hr2 : q - (j + 1) = r := by omega
                  have HR2 := Lib.hid hr2
                  have HC1 := Lib.hid hc1
                  clear hr hcl hs1 hc1 hpl2 hr2
                  rcases hab with ⟨rfl, rfl⟩ | ⟨rfl, rfl⟩
                  · go_wp2_with (go_at_call 44; refine CS.mono ?_; rintro e w3 ⟨A3, rfl, hx3, hg3⟩)
                    have HG3 := Lib.hid hg3
                    clear hg3
                    go_wp2_with fail
                    go_roundw
                    case rel => exact ⟨j + 1, x1, 2, 0, A3, sj1, by omega, rfl, rfl, by go_num, Lib.hid ⟨by rw [HR2.out]; exact HC1.out, HJ.out.2.1.trans HG3.out, by rw [HG3.out.old _ HJ.out.2.2.2.1]; exact HJ.out.2.2.1, Nat.lt_of_lt_of_le HJ.out.2.2.2.1 HG3.out.len, hx3⟩, by decide⟩
                    case measure => simp [intOf]; omega
                  · go_wp2_with (go_at_call 44; refine CS.mono ?_; rintro e w3 ⟨A3, rfl, hx3, hg3⟩)
                    have HG3 := Lib.hid hg3
                    clear hg3
                    go_wp2_with fail
                    go_roundw
                    case rel => exact ⟨j + 1, x1, 0, 2, A3, sj1, by omega, rfl, rfl, by go_num, Lib.hid ⟨by rw [HR2.out]; exact HC1.out, HJ.out.2.1.trans HG3.out, by rw [HG3.out.old _ HJ.out.2.2.2.1]; exact HJ.out.2.2.1, Nat.lt_of_lt_of_le HJ.out.2.2.2.1 HG3.out.len, hx3⟩, by decide⟩
                    case measure => simp [intOf]; omega
                · have hj0 : q - j = 0 := by omega
                  have hcl := HJ.out.1
                  rw [hj0] at hcl
                  simp only [Cox.climb, Option.some.injEq, Prod.mk.injEq] at hcl
                  obtain ⟨rfl, rfl⟩ := hcl
                  have LZ := link_grows HJ.out.2.1 (s := 2) HJ.out.2.2.2.2 HJ.out.2.2.2.1 HE5.out rfl HJ.out.2.2.1
                  have hcv4 := fun W b o => conv_byte 2 W ⟨b, o, none⟩ rfl
                  have hap4 := wb_append nz.word [2]
                  have hsz4 : ¬ 9223372036854775807 < (wb nz.word).size + (wb [2]).size := by rw [wb_size, wb_size]; have := HF.out.2.2.1; simp; omega
                  clear hj0
                  go_wp2_with (go_at_call 46; refine LZ.mono ?_; rintro e w4 ⟨rfl, hg4⟩)
                  have c0z := cell_of (hg4.rep.cells _ nz HF.out.1) 0
                  have c0y := cell_of (hg4.rep.cells _ ny HF.out.2.1) 0
                  have fy := free_of (hg4.rep.cells _ ny HF.out.2.1) 0
                  rw [HJ.out.2.2.1] at c0y fy
                  have lz := hg4.rep.lt (List.getElem?_eq_some_iff.1 HF.out.1).1
                  have ly := hg4.rep.lt (List.getElem?_eq_some_iff.1 HF.out.2.1).1
                  rw [HJ.out.2.2.1] at ly
                  simp [tcells] at c0z c0y
                  have HG4 := Lib.hid hg4
                  clear hg4 LZ
                  rcases HF.out.2.2.2 with ⟨hl, hS⟩ | ⟨hl, hS⟩
                  · rw [← less_wb] at hl
                    have HS4 := Lib.hid hS
                    clear hS
                    go_region
                    go_wp2_with fail
                    go_roundw
                    case rel => exact ⟨3, Aj, by omega, by go_num, Lib.hid ⟨by rw [show S 3 = _ from HS4.out]; exact alloc_grows (word_grows HG4.out (by rw [Cox.length_link]; exact HJ.out.2.2.2.1) _ HJ.out.2.2.1) _, HJ.out.2.2.1, by rw [show S 3 = _ from HS4.out, List.length_modify, Cox.length_link]; exact HJ.out.2.2.2.1⟩⟩
                    case measure => simp [intOf]
                  · rw [← less_wb] at hl
                    have HS4 := Lib.hid hS
                    clear hS
                    go_region
                    go_wp2_with fail
                    go_roundw
                    case rel => exact ⟨3, Aj, by omega, by go_num, Lib.hid ⟨by rw [show S 3 = _ from HS4.out]; exact alloc_grows HG4.out _, HJ.out.2.2.1, by rw [show S 3 = _ from HS4.out, Cox.length_link]; exact HJ.out.2.2.2.1⟩⟩
                    case measure => simp [intOf]
            · rw [if_neg hpar, if_neg hpar] at e2
              have HC2 := Lib.hid e2
              have hpi : ((q : Int) + 1) % 2 = 1 := by omega
              clear e2 h1 hlt hk
              go_wp2_with (go_at_call 47; refine LW.mono ?_; rintro e w2 ⟨rfl, rfl⟩)
              clear hpi
              go_loopw [12, 13, 80] (fun zz ll cc wq => ∃ (j zj : Nat) (a' b' : Fin 3) (Aj : Nat → Nat) (stj : List Tl), j ≤ q ∧ zz = .pointer (some ⟨Aj zj, 0, none⟩) ∧ ll = .int .i64 (a'.val : Int) ∧ cc = .int .i64 j ∧ Hid (Cox.climb (Cox.step m f) (q - j) stj zj a' b' = some (st2, z) ∧ Grows w A st wq Aj stj ∧ Aj st.length = w.heap.size + 1 ∧ st.length < stj.length ∧ zj < stj.length) ∧ ((a' = 0 ∧ b' = 2) ∨ (a' = 2 ∧ b' = 0))) (fun _ _ cc _ => q - (intOf cc).toNat)
              case atStart => exact ⟨0, v, 2, 0, A', _, Nat.zero_le _, rfl, rfl, rfl, Lib.hid ⟨HC2.out, HK.out.1, HK.out.2.1, HK.out.2.2, HV.out⟩, by decide⟩
              case round =>
                obtain ⟨j, zj, a', b', Aj, stj, hj, rfl, rfl, rfl, HJ, hab⟩ := hrel
                by_cases hjq : j < q
                · obtain ⟨r, hr⟩ : ∃ r, q - j = r + 1 := ⟨q - j - 1, by omega⟩
                  have hcl := HJ.out.1
                  rw [hr] at hcl
                  obtain ⟨sj1, x1, hs1, hc1⟩ := Cox.climb_succ hcl
                  have hpl2 := HJ.out.2.1.plane HP.out HPA.out
                  have CS := IH.out Aj stj zj a' _ sj1 x1 p F HJ.out.2.1.rep HJ.out.2.2.2.2 hpl2.1 hpl2.2 hs1
                  have hr2 : q - (j + 1) = r := by omega
                  have HR2 := Lib.hid hr2
                  have HC1 := Lib.hid hc1
                  clear hr hcl hs1 hc1 hpl2 hr2
                  rcases hab with ⟨rfl, rfl⟩ | ⟨rfl, rfl⟩
                  · go_wp2_with (go_at_call 44; refine CS.mono ?_; rintro e w3 ⟨A3, rfl, hx3, hg3⟩)
                    have HG3 := Lib.hid hg3
                    clear hg3
                    go_wp2_with fail
                    go_roundw
                    case rel => exact ⟨j + 1, x1, 2, 0, A3, sj1, by omega, rfl, rfl, by go_num, Lib.hid ⟨by rw [HR2.out]; exact HC1.out, HJ.out.2.1.trans HG3.out, by rw [HG3.out.old _ HJ.out.2.2.2.1]; exact HJ.out.2.2.1, Nat.lt_of_lt_of_le HJ.out.2.2.2.1 HG3.out.len, hx3⟩, by decide⟩
                    case measure => simp [intOf]; omega
                  · go_wp2_with (go_at_call 44; refine CS.mono ?_; rintro e w3 ⟨A3, rfl, hx3, hg3⟩)
                    have HG3 := Lib.hid hg3
                    clear hg3
                    go_wp2_with fail
                    go_roundw
                    case rel => exact ⟨j + 1, x1, 0, 2, A3, sj1, by omega, rfl, rfl, by go_num, Lib.hid ⟨by rw [HR2.out]; exact HC1.out, HJ.out.2.1.trans HG3.out, by rw [HG3.out.old _ HJ.out.2.2.2.1]; exact HJ.out.2.2.1, Nat.lt_of_lt_of_le HJ.out.2.2.2.1 HG3.out.len, hx3⟩, by decide⟩
                    case measure => simp [intOf]; omega
                · have hj0 : q - j = 0 := by omega
                  have hcl := HJ.out.1
                  rw [hj0] at hcl
                  simp only [Cox.climb, Option.some.injEq, Prod.mk.injEq] at hcl
                  obtain ⟨rfl, rfl⟩ := hcl
                  have LZ := link_grows HJ.out.2.1 (s := 2) HJ.out.2.2.2.2 HJ.out.2.2.2.1 HE5.out rfl HJ.out.2.2.1
                  have hcv4 := fun W b o => conv_byte 2 W ⟨b, o, none⟩ rfl
                  have hap4 := wb_append nz.word [2]
                  have hsz4 : ¬ 9223372036854775807 < (wb nz.word).size + (wb [2]).size := by rw [wb_size, wb_size]; have := HF.out.2.2.1; simp; omega
                  clear hj0
                  go_wp2_with (go_at_call 46; refine LZ.mono ?_; rintro e w4 ⟨rfl, hg4⟩)
                  have c0z := cell_of (hg4.rep.cells _ nz HF.out.1) 0
                  have c0y := cell_of (hg4.rep.cells _ ny HF.out.2.1) 0
                  have fy := free_of (hg4.rep.cells _ ny HF.out.2.1) 0
                  rw [HJ.out.2.2.1] at c0y fy
                  have lz := hg4.rep.lt (List.getElem?_eq_some_iff.1 HF.out.1).1
                  have ly := hg4.rep.lt (List.getElem?_eq_some_iff.1 HF.out.2.1).1
                  rw [HJ.out.2.2.1] at ly
                  simp [tcells] at c0z c0y
                  have HG4 := Lib.hid hg4
                  clear hg4 LZ
                  rcases HF.out.2.2.2 with ⟨hl, hS⟩ | ⟨hl, hS⟩
                  · rw [← less_wb] at hl
                    have HS4 := Lib.hid hS
                    clear hS
                    go_region
                    go_wp2_with fail
                    go_roundw
                    case rel => exact ⟨3, Aj, by omega, by go_num, Lib.hid ⟨by rw [show S 3 = _ from HS4.out]; exact alloc_grows (word_grows HG4.out (by rw [Cox.length_link]; exact HJ.out.2.2.2.1) _ HJ.out.2.2.1) _, HJ.out.2.2.1, by rw [show S 3 = _ from HS4.out, List.length_modify, Cox.length_link]; exact HJ.out.2.2.2.1⟩⟩
                    case measure => simp [intOf]
                  · rw [← less_wb] at hl
                    have HS4 := Lib.hid hS
                    clear hS
                    go_region
                    go_wp2_with fail
                    go_roundw
                    case rel => exact ⟨3, Aj, by omega, by go_num, Lib.hid ⟨by rw [show S 3 = _ from HS4.out]; exact alloc_grows HG4.out _, HJ.out.2.2.1, by rw [show S 3 = _ from HS4.out, Cox.length_link]; exact HJ.out.2.2.2.1⟩⟩
                    case measure => simp [intOf]
    · have hk3 : k = 3 := by omega
      subst hk3
      go_wp2_with fail
      go_ret
      exact ⟨A', by rw [HK.out.2.1]; rfl, HK.out.2.2, HK.out.1⟩
end Go.Proofs.Ytlhmfaelkkiahaa
