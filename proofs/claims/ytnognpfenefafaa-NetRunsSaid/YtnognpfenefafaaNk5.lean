/- The walks of the net's functions at a net that nobody made. -/
import Derived.Test.YtnognpfenefafaaNk4
import Derived.StillTailTactics
namespace Go.Proofs.Ytnognpfenefafaa
open Go.Proofs.Ytnognpfenefafaa.PNetRuns (S39 S73 k39 k73 z39 z73)
open Go.RowKit Go.Proofs.YtnognpfenefafaaW.PrintWords Go.Proofs.YtnognpfenefafaaW.PrintLast Go.Proofs.YtnognpfenefafaaW.PrintMore
set_option maxRecDepth 100000 in
set_option maxHeartbeats 2000000 in
theorem take_un (p : Value) (id : Int) (w : World) (h : UnM p w) : Calls Try.prog 29 #[p, .int .i64 id] w fun e w' => e = .returned (.tuple #[.agg #[.int .i64 0, .int .i64 0, .int .i64 0, .int .i64 0, .bool false, .slice none 0 0], .int .i64 4]) ∧ Below w.heap.size w w' := by
  have H := Lib.hid h
  clear h
  go_enter Try.func29, Try.ntmps29
  go_wp2_with fail
  refine (find_un _ _ _ (H.out.to (by first | exact Below.refl _ _ | exact below_alloc (Below.refl _ _) _))).mono ?_
  rintro e w1 ⟨rfl, hb⟩
  have HB := Lib.hid (below_then (below_alloc (Below.refl w.heap.size w) _) (Nat.le_of_lt (by rw [World.size_alloc]; omega)) hb)
  have hl := loc_blk hb
  have HL := Lib.hid hl
  (have mlc0 := blk_cell hl 0 _ rfl; have mlc1 := blk_cell hl 1 _ rfl; have mlc2 := blk_cell hl 2 _ rfl; have mlc3 := blk_cell hl 3 _ rfl; have mlc4 := blk_cell hl 4 _ rfl; have mlc5 := blk_cell hl 5 _ rfl; have mlf0 := blk_free hl 0; have mlf1 := blk_free hl 1; have mlf2 := blk_free hl 2; have mlf3 := blk_free hl 3; have mlf4 := blk_free hl 4; have mlf5 := blk_free hl 5; clear hl)
  clear hb
  go_wp2_with fail
  refine bodyPost_ret_by (results_ct res29 (g := w.heap.size) rfl (load69 (blk_six HL.out _ _ _ _ _ _) rfl)) rfl ⟨rfl, ?_⟩
  exact below_set (below_set (below_set (below_set (below_set (below_set HB.out (Nat.le_refl _)) (Nat.le_refl _)) (Nat.le_refl _)) (Nat.le_refl _)) (Nat.le_refl _)) (Nat.le_refl _)
end Go.Proofs.Ytnognpfenefafaa
