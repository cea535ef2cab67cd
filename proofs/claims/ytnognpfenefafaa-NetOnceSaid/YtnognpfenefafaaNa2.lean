/- The walk of act at Spoil, whatever its two calls answer. -/
import Derived.Test.YtnognpfenefafaaNa1
import Derived.Deep.RegionHeld3
namespace Go.Proofs.Ytnognpfenefafaa
open Go.Proofs.Ytnognpfenefafaa.PNetRuns (S39 S73 k39 k73 z39 z73)
open Go.RowKit Go.Proofs.YtnognpfenefafaaW.PrintWords Go.Proofs.YtnognpfenefafaaW.PrintLast Go.Proofs.YtnognpfenefafaaW.PrintMore
set_option maxRecDepth 100000 in
set_option maxHeartbeats 2000000 in
theorem act6 (p q : Value) (fr to_ id at_ bits : Int) (v : Value) (w : World) (e f : Int) (C : Prop) (hC : C → e = f) (R1 R2 : World → Prop)
    (h1 : ∀ m, Calls Try.prog 21 #[p, .int .i64 id, .int .i64 at_, .int .u8 bits] ((w.alloc (.cells (opc 6 fr to_ id at_ bits v) 36)).drewN m) fun en w1 => en = .returned (.int .i64 e) ∧ w1.heap[w.heap.size]? = some (.cells (opc 6 fr to_ id at_ bits v) 36 (0, 0)) ∧ R1 w1)
    (h2 : ∀ w1, R1 w1 → Calls Try.prog 27 #[q, .int .i64 id, .int .i64 at_, .int .u8 bits] w1 fun en w2 => en = .returned (.int .i64 f) ∧ w2.heap[w.heap.size]? = some (.cells (opc 6 fr to_ id at_ bits v) 36 (0, 0)) ∧ R2 w2) :
    Calls Try.prog 9 #[p, q, .agg (opc 6 fr to_ id at_ bits v)] w fun en w' => AR en C ∧ R2 w' := by
  unfold opc at *
  have H1 := Lib.hid h1
  have H2 := Lib.hid h2
  have HC := Lib.hid hC
  clear h1 h2 hC
  go_enter Try.func9, Try.ntmps9
  go_wp2_with fail
  have hb0 := heap_alloc_new w (.cells #[.int .i64 6, .int .i64 fr, .int .i64 to_, .int .i64 id, .int .i64 at_, .int .u8 bits, v] 36)
  generalize w.alloc (.cells #[.int .i64 6, .int .i64 fr, .int .i64 to_, .int .i64 id, .int .i64 at_, .int .u8 bits, v] 36) = W0 at *
  obtain ⟨g1, hg1⟩ : ∃ g1, g1 = w.heap.size := ⟨_, rfl⟩
  rw [← hg1] at hb0 ⊢
  have H1' : Hid (∀ m, Calls Try.prog 21 #[p, .int .i64 id, .int .i64 at_, .int .u8 bits] (W0.drewN m) fun en w1 => en = .returned (.int .i64 e) ∧ w1.heap[g1]? = some (.cells #[.int .i64 6, .int .i64 fr, .int .i64 to_, .int .i64 id, .int .i64 at_, .int .u8 bits, v] 36 (0, 0)) ∧ R1 w1) := by rw [hg1]; exact H1
  have H2' : Hid (∀ w1, R1 w1 → Calls Try.prog 27 #[q, .int .i64 id, .int .i64 at_, .int .u8 bits] w1 fun en w2 => en = .returned (.int .i64 f) ∧ w2.heap[g1]? = some (.cells #[.int .i64 6, .int .i64 fr, .int .i64 to_, .int .i64 id, .int .i64 at_, .int .u8 bits, v] 36 (0, 0)) ∧ R2 w2) := by rw [hg1]; exact H2
  clear H1 H2 hg1
  have c3 := blk_cell hb0 3 (.int .i64 id) rfl
  have c4 := blk_cell hb0 4 (.int .i64 at_) rfl
  have c5 := blk_cell hb0 5 (.int .u8 bits) rfl
  clear hb0
  go_region_held3 (fun w' => w'.cell? ⟨g1, 3, none⟩ = some (.int .i64 id) ∧ w'.cell? ⟨g1, 4, none⟩ = some (.int .i64 at_) ∧ w'.cell? ⟨g1, 5, none⟩ = some (.int .u8 bits)) (first | exact ⟨c3, c4, c5⟩ | assumption) (first
    | (go_simp; go_at_call 21; refine (H1'.out _).mono ?_; rintro en w1 ⟨rfl, hb, hR⟩; have HR := Lib.hid hR; clear c3 c4 c5; have c3 := blk_cell hb 3 (.int .i64 id) rfl; have c4 := blk_cell hb 4 (.int .i64 at_) rfl; have c5 := blk_cell hb 5 (.int .u8 bits) rfl; clear hb hR H1')
    | (go_simp; go_at_call 27; refine (H2'.out _ HR.out).mono ?_; rintro en w2 ⟨rfl, hb, hR⟩; clear H2' HR; have HR := Lib.hid hR; clear c3 c4 c5; have c3 := blk_cell hb 3 (.int .i64 id) rfl; have c4 := blk_cell hb 4 (.int .i64 at_) rfl; have c5 := blk_cell hb 5 (.int .u8 bits) rfl; clear hb hR))
  all_goals
    by_cases q3 : e = f
    · subst q3
      go_wp2_with fail
      go_ret
      exact ⟨⟨_, rfl, fun _ => by simp⟩, HR.out⟩
    · have e3 : (e == f) = false := by simpa using q3
      go_wp2_with fail
      go_ret
      exact ⟨⟨_, rfl, fun h => absurd (HC.out h) q3⟩, HR.out⟩
end Go.Proofs.Ytnognpfenefafaa
