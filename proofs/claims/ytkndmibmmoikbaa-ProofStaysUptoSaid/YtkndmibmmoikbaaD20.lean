/- Chapter 10: Pg1a. -/
import Derived.Test.YtkndmibmmoikbaaD18
import Derived.Deep.Cut
set_option linter.all false
set_option maxRecDepth 100000
set_option maxHeartbeats 16000000
namespace Go.Proofs.Ytkndmibmmoikbaa
open Go.RowKit
open Cox (Tl)
theorem StrsAt.below {w w' : World} {p : Option Addr} {l : List ByteArray} (h : StrsAt w p l) (hb : Below w.heap.size w w') : StrsAt w' p l := by
 intro hne
 obtain ⟨b, o, rfl, hr⟩ := h hne
 refine ⟨b, o, rfl, fun i hi => ?_⟩
 have h0 := hr i hi
 rw [hb.cell (p := ⟨b, o + i, none⟩)]
 · exact h0
 · exact World.block_lt_of_cell? w _ h0
theorem PairsAt.below {w w' : World} {p : Option Addr} {l : List PairD} (h : PairsAt w p l) (hb : Below w.heap.size w w') : PairsAt w' p l := by
 intro hne
 obtain ⟨b, o, rfl, hr⟩ := h hne
 refine ⟨b, o, rfl, fun i hi => ?_⟩
 have h0 := hr i hi
 have hl := World.block_lt_of_cell? w _ h0.1
 rw [hb.cell (p := ⟨b, o + i * 4, none⟩) hl, hb.cell (p := ⟨b, o + i * 4 + 1, none⟩) hl, hb.cell (p := ⟨b, o + i * 4 + 2, none⟩) hl, hb.cell (p := ⟨b, o + i * 4 + 3, none⟩) hl]
 exact h0
def edgeAt (p : PairD) (j : Nat) : EdgeD := if j = 0 then p.1 else p.2
theorem idx41 (pk : PairD) (j : Nat) (hj : j < 2) (Wx : World) : (Instr.index 41 (.agg #[.string pk.1.tile, .int .i64 pk.1.mir, .string pk.2.tile, .int .i64 pk.2.mir]) (.int .i64 (j : Nat))).run Try.prog Wx = .ok (.agg #[.string (edgeAt pk j).tile, .int .i64 (edgeAt pk j).mir]) Wx := by
 have e0 : ∀ Wx, (Instr.index 41 (.agg #[.string pk.1.tile, .int .i64 pk.1.mir, .string pk.2.tile, .int .i64 pk.2.mir]) (.int .i64 0)).run Try.prog Wx = .ok (.agg #[.string pk.1.tile, .int .i64 pk.1.mir]) Wx := fun _ => by kernel_rfl
 have e1 : ∀ Wx, (Instr.index 41 (.agg #[.string pk.1.tile, .int .i64 pk.1.mir, .string pk.2.tile, .int .i64 pk.2.mir]) (.int .i64 1)).run Try.prog Wx = .ok (.agg #[.string pk.2.tile, .int .i64 pk.2.mir]) Wx := fun _ => by kernel_rfl
 have : j = 0 ∨ j = 1 := by omega
 rcases this with rfl | rfl
 · exact e0 Wx
 · exact e1 Wx
end Go.Proofs.Ytkndmibmmoikbaa
