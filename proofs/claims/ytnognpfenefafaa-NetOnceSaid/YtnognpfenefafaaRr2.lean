/- The walks of the document's net: has, find, and where it refuses. -/
import Derived.Test.YtnognpfenefafaaRr1
namespace Go.Proofs.Ytnognpfenefafaa
open Go.Proofs.Ytnognpfenefafaa.PNetRuns (S39 S73 k39 k73 z39 z73)
open Go.RowKit Go.Proofs.YtnognpfenefafaaW.PrintWords Go.Proofs.YtnognpfenefafaaW.PrintLast Go.Proofs.YtnognpfenefafaaW.PrintMore
theorem res25 : Try.f25.results = #[.cell 4 39, .tmp 5, .tmp 6] := rfl
set_option maxRecDepth 100000 in
set_option maxHeartbeats 2000000 in
theorem rdeliver_gone (S : Nat → Prop) (g : Nat) (dev last id : Int) (ps : List S73) (w : World) (h : Rn S g dev last ps w) (hl : ps.length ≤ 100000) (hq : ¬ fnd ps id < ps.length) :
    Calls Try.prog 25 #[.pointer (some ⟨g, 0, none⟩), .int .i64 id] w fun e w' => e = .returned (.tuple #[.agg #[.int .i64 0, .int .i64 0, .int .i64 0, .int .i64 0, .bool false], .slice none 0 0, .int .i64 231]) ∧ Below w.heap.size w w' := by
  have hp := h.step (w' := w.alloc (.cells #[.int .i64 0, .int .i64 0, .int .i64 0, .int .i64 0, .bool false] 39)) (by rw [World.size_alloc]; omega) (fun k hk hl => Below.heap_alloc _ _ k hl)
  have H := Lib.hid (rfind_gone S g dev last id ps _ hp hl hq)
  clear h hl hq hp
  go_enter Try.func25, Try.ntmps25
  go_wp2_with fail
  refine H.out.mono ?_
  rintro e w1 ⟨rfl, rfl⟩
  have hl := heap_alloc_new w (.cells #[.int .i64 0, .int .i64 0, .int .i64 0, .int .i64 0, .bool false] 39)
  have HL := Lib.hid hl
  have HB := Lib.hid (below_alloc (Below.refl w.heap.size w) (.cells #[.int .i64 0, .int .i64 0, .int .i64 0, .int .i64 0, .bool false] 39))
  clear H
  generalize w.alloc (.cells #[.int .i64 0, .int .i64 0, .int .i64 0, .int .i64 0, .bool false] 39) = W2 at *
  (have mlc0 := blk_cell hl 0 _ rfl; have mlc1 := blk_cell hl 1 _ rfl; have mlc2 := blk_cell hl 2 _ rfl; have mlc3 := blk_cell hl 3 _ rfl; have mlc4 := blk_cell hl 4 _ rfl; have mlf0 := blk_free hl 0; have mlf1 := blk_free hl 1; have mlf2 := blk_free hl 2; have mlf3 := blk_free hl 3; have mlf4 := blk_free hl 4; clear hl)
  go_wp2_with fail
  refine bodyPost_ret_by (results_ctt res25 (g := w.heap.size) rfl (load39 (blk_five HL.out _ _ _ _ _) rfl)) rfl ⟨rfl, ?_⟩
  exact below_set (below_set (below_set (below_set (below_set HB.out (Nat.le_refl _)) (Nat.le_refl _)) (Nat.le_refl _)) (Nat.le_refl _)) (Nat.le_refl _)
end Go.Proofs.Ytnognpfenefafaa
