/- Results that are struct variables. -/
import Derived.Test.YtnognpfenefafaaNk3
namespace Go.Proofs.Ytnognpfenefafaa
open Go.Proofs.Ytnognpfenefafaa.PNetRuns (S39 S73 k39 k73 z39 z73)
open Go.RowKit Go.Proofs.YtnognpfenefafaaW.PrintWords Go.Proofs.YtnognpfenefafaaW.PrintLast Go.Proofs.YtnognpfenefafaaW.PrintMore
/-- A local struct's block, behind a call. -/
theorem loc_blk {w w1 : World} {cs : Array Value} {t : TypeId} (h : Below (w.alloc (.cells cs t)).heap.size (w.alloc (.cells cs t)) w1) : w1.heap[w.heap.size]? = some (.cells cs t (0, 0)) :=
  (h.block _ (by rw [World.size_alloc]; omega)).trans (heap_alloc_new w _)
theorem size69 : (Try.prog.info? 69).map (·.size) = some 6 := by kernel_rfl
theorem size39 : (Try.prog.info? 39).map (·.size) = some 5 := by kernel_rfl
/-- Six cells written. -/
theorem blk_six {w : World} {g : Nat} {a0 a1 a2 a3 a4 a5 : Value} {t : TypeId} (h : w.heap[g]? = some (.cells #[a0, a1, a2, a3, a4, a5] t (0, 0))) (b0 b1 b2 b3 b4 b5 : Value) :
    ((((((w.setCell ⟨g, 0, none⟩ b0).setCell ⟨g, 1, none⟩ b1).setCell ⟨g, 2, none⟩ b2).setCell ⟨g, 3, none⟩ b3).setCell ⟨g, 4, none⟩ b4).setCell ⟨g, 5, none⟩ b5).heap[g]? = some (.cells #[b0, b1, b2, b3, b4, b5] t (0, 0)) := by
  have := blk_set (blk_set (blk_set (blk_set (blk_set (blk_set h 0 b0) 1 b1) 2 b2) 3 b3) 4 b4) 5 b5
  simpa using this
theorem blk_five {w : World} {g : Nat} {a0 a1 a2 a3 a4 : Value} {t : TypeId} (h : w.heap[g]? = some (.cells #[a0, a1, a2, a3, a4] t (0, 0))) (b0 b1 b2 b3 b4 : Value) :
    (((((w.setCell ⟨g, 0, none⟩ b0).setCell ⟨g, 1, none⟩ b1).setCell ⟨g, 2, none⟩ b2).setCell ⟨g, 3, none⟩ b3).setCell ⟨g, 4, none⟩ b4).heap[g]? = some (.cells #[b0, b1, b2, b3, b4] t (0, 0)) := by
  have := blk_set (blk_set (blk_set (blk_set (blk_set h 0 b0) 1 b1) 2 b2) 3 b3) 4 b4
  simpa using this
theorem load69 {w : World} {g : Nat} {cs : Array Value} {t : TypeId} {fr : Nat × Nat} (h : w.heap[g]? = some (.cells cs t fr)) (hs : cs.size = 6) : (loadVar 69 ⟨g, 0, none⟩).run Try.prog w = .ok (.agg cs) w :=
  run_loadVar_row w g t 69 cs fr _ h Try.underlying69 rfl (by rw [hs]; exact size69)
theorem load39 {w : World} {g : Nat} {cs : Array Value} {t : TypeId} {fr : Nat × Nat} (h : w.heap[g]? = some (.cells cs t fr)) (hs : cs.size = 5) : (loadVar 39 ⟨g, 0, none⟩).run Try.prog w = .ok (.agg cs) w :=
  run_loadVar_row w g t 39 cs fr _ h Try.underlying39 rfl (by rw [hs]; exact size39)
theorem results_ct {P : Program} {fn : Func} {a t : Tmp} {T : TypeId} (h : fn.results = #[.cell a T, .tmp t]) {tmps : Array Value} {w : World} {g : Nat} {V : Value} (hp : tmps.getD a undef = .pointer (some ⟨g, 0, none⟩)) (hl : (loadVar T ⟨g, 0, none⟩).run P w = .ok V w) :
    (results fn tmps).run P w = .ok (.tuple #[V, tmps.getD t undef]) w := by
  have hp' : tmps[a]?.getD undef = .pointer (some ⟨g, 0, none⟩) := by simpa using hp
  simp [results, h, hp', asAddr, hl]
theorem results_ctt {P : Program} {fn : Func} {a t u : Tmp} {T : TypeId} (h : fn.results = #[.cell a T, .tmp t, .tmp u]) {tmps : Array Value} {w : World} {g : Nat} {V : Value} (hp : tmps.getD a undef = .pointer (some ⟨g, 0, none⟩)) (hl : (loadVar T ⟨g, 0, none⟩).run P w = .ok V w) :
    (results fn tmps).run P w = .ok (.tuple #[V, tmps.getD t undef, tmps.getD u undef]) w := by
  have hp' : tmps[a]?.getD undef = .pointer (some ⟨g, 0, none⟩) := by simpa using hp
  simp [results, h, hp', asAddr, hl]
theorem res29 : Try.f29.results = #[.cell 4 69, .tmp 5] := rfl
theorem res10 : Try.f10.results = #[.cell 4 39, .tmp 5, .tmp 6] := rfl
end Go.Proofs.Ytnognpfenefafaa
