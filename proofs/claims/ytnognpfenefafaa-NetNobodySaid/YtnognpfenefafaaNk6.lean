/- The walk of Deliver, whatever take answers. -/
import Derived.Test.YtnognpfenefafaaNk5
import Derived.Deep.RegionWith
namespace Go.Proofs.Ytnognpfenefafaa
open Go.Proofs.Ytnognpfenefafaa.PNetRuns (S39 S73 k39 k73 z39 z73)
open Go.RowKit Go.Proofs.YtnognpfenefafaaW.PrintWords Go.Proofs.YtnognpfenefafaaW.PrintLast Go.Proofs.YtnognpfenefafaaW.PrintMore
theorem chg_drew {S : Nat → Prop} {a b : World} (h : Chg S a b) : Chg S a b.drew := ⟨h.os, h.tape, h.output, h.size, h.block⟩
theorem chg_five (w : World) (g : Nat) (b0 b1 b2 b3 b4 : Value) : Chg (fun k => k = g) w (((((w.setCell ⟨g, 0, none⟩ b0).setCell ⟨g, 1, none⟩ b1).setCell ⟨g, 2, none⟩ b2).setCell ⟨g, 3, none⟩ b3).setCell ⟨g, 4, none⟩ b4) :=
  (((((Chg.refl (fun k => k = g) w).set _ _ (.inl rfl)).set _ _ (.inl rfl)).set _ _ (.inl rfl)).set _ _ (.inl rfl)).set _ _ (.inl rfl)
set_option maxRecDepth 100000 in
set_option maxHeartbeats 4000000 in
theorem deliver_gen (p : Value) (id : Int) (w : World) (i0 i1 i2 i3 : Int) (b : Bool) (A : Option Addr) (n c : Nat) (e : Int) (R : World → Prop)
    (h : Calls Try.prog 29 #[p, .int .i64 id] (w.alloc (.cells #[.int .i64 0, .int .i64 0, .int .i64 0, .int .i64 0, .bool false] 39)) fun en w1 => en = .returned (.tuple #[.agg #[.int .i64 i0, .int .i64 i1, .int .i64 i2, .int .i64 i3, .bool b, .slice A n c], .int .i64 e]) ∧ w1.heap[w.heap.size]? = some (.cells #[.int .i64 0, .int .i64 0, .int .i64 0, .int .i64 0, .bool false] 39 (0, 0)) ∧ R w1) :
    Calls Try.prog 10 #[p, .int .i64 id] w fun en w' => en = .returned (.tuple #[.agg #[.int .i64 i0, .int .i64 i1, .int .i64 i2, .int .i64 i3, .bool b], .slice A n c, .int .i64 e]) ∧ ∃ w1, R w1 ∧ Chg (fun k => k = w.heap.size) w1 w' := by
  have H := Lib.hid h
  clear h
  go_enter Try.func10, Try.ntmps10
  go_wp2_with fail
  refine (H.out).mono ?_
  clear H
  rintro en w1 ⟨rfl, hl, hR⟩
  have HR := Lib.hid hR
  clear hR
  have HL := Lib.hid hl
  clear hl
  go_wp2_with fail
  have hl := HL.out
  have hnb := heap_alloc_new w1 (.cells #[.int .i64 i0, .int .i64 i1, .int .i64 i2, .int .i64 i3, .bool b, .slice A n c] 69)
  have hob := (Below.heap_alloc w1 (.cells #[.int .i64 i0, .int .i64 i1, .int .i64 i2, .int .i64 i3, .bool b, .slice A n c] 69) _ (blk_lt hl)).trans hl
  have HB2 := Lib.hid ((Chg.refl (fun k => k = w.heap.size) w1).alloc (.cells #[.int .i64 i0, .int .i64 i1, .int .i64 i2, .int .i64 i3, .bool b, .slice A n c] 69))
  have hne : w.heap.size ≠ w1.heap.size := Nat.ne_of_lt (blk_lt hl)
  have hne2 : w1.heap.size ≠ w.heap.size := Ne.symm hne
  clear HL hl
  generalize w1.alloc (.cells #[.int .i64 i0, .int .i64 i1, .int .i64 i2, .int .i64 i3, .bool b, .slice A n c] 69) = W2 at *
  generalize w1.heap.size = g2 at *
  obtain ⟨g1, hg1⟩ : ∃ g1, g1 = w.heap.size := ⟨_, rfl⟩
  have HG1 := Lib.hid hg1
  rw [← hg1] at hob HB2 hne hne2 ⊢
  clear hg1
  have HN := Lib.hid hob
  (have mlc0 := blk_cell hnb 0 _ rfl; have mlc1 := blk_cell hnb 1 _ rfl; have mlc2 := blk_cell hnb 2 _ rfl; have mlc3 := blk_cell hnb 3 _ rfl; have mlc4 := blk_cell hnb 4 _ rfl; have mlc5 := blk_cell hnb 5 _ rfl; have mlf0 := blk_free hnb 0; have mlf1 := blk_free hnb 1; have mlf2 := blk_free hnb 2; have mlf3 := blk_free hnb 3; have mlf4 := blk_free hnb 4; have mlf5 := blk_free hnb 5; clear hnb)
  (have mlc0 := blk_cell hob 0 _ rfl; have mlc1 := blk_cell hob 1 _ rfl; have mlc2 := blk_cell hob 2 _ rfl; have mlc3 := blk_cell hob 3 _ rfl; have mlc4 := blk_cell hob 4 _ rfl; have mlf0 := blk_free hob 0; have mlf1 := blk_free hob 1; have mlf2 := blk_free hob 2; have mlf3 := blk_free hob 3; have mlf4 := blk_free hob 4; clear hob)
  go_region_held3 (fun w' => w'.cell? ⟨g2, 0, none⟩ = some (.int .i64 i0) ∧ w'.cell? ⟨g2, 1, none⟩ = some (.int .i64 i1) ∧ w'.cell? ⟨g2, 2, none⟩ = some (.int .i64 i2) ∧ w'.cell? ⟨g2, 3, none⟩ = some (.int .i64 i3) ∧ w'.cell? ⟨g2, 4, none⟩ = some (.bool b) ∧ w'.cell? ⟨g2, 5, none⟩ = some (.slice A n c)) (first | assumption | go_keep) (fail)
  go_wp2_with fail
  refine bodyPost_ret_by (results_ctt res10 (g := g1) (V := .agg #[.int .i64 i0, .int .i64 i1, .int .i64 i2, .int .i64 i3, .bool b]) rfl ?_) rfl ⟨rfl, w1, HR.out, ?_⟩
  · refine load39 (t := 39) (fr := (0, 0)) ?_ rfl
    first
      | (simp only [heap_drew]; exact blk_five HN.out _ _ _ _ _)
      | exact blk_five HN.out _ _ _ _ _
  · rw [← HG1.out]
    first
      | exact chg_drew (HB2.out.trans (chg_five _ _ _ _ _ _ _) (fun i hi => .inl hi))
      | exact (HB2.out.trans (chg_five _ _ _ _ _ _ _) (fun i hi => .inl hi))
end Go.Proofs.Ytnognpfenefafaa
