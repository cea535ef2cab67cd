/- The walks of act at Deliver and Drop, whatever its two calls answer. -/
import Derived.Test.YtnognpfenefafaaNa2
namespace Go.Proofs.Ytnognpfenefafaa
open Go.Proofs.Ytnognpfenefafaa.PNetRuns (S39 S73 k39 k73 z39 z73)
open Go.RowKit Go.Proofs.YtnognpfenefafaaW.PrintWords Go.Proofs.YtnognpfenefafaaW.PrintLast Go.Proofs.YtnognpfenefafaaW.PrintMore
/-- A datagram's cells. -/
def dgc (x : S39) : Array Value := #[.int .i64 x.f0, .int .i64 x.f1, .int .i64 x.f2, .int .i64 x.f3, .bool x.f4]
set_option maxRecDepth 100000 in
set_option maxHeartbeats 2000000 in
theorem act4 (p q : Value) (fr to_ id at_ bits : Int) (v : Value) (w : World) (x : S39) (u : Value) (e f : Int) (C : Prop) (hC : C → e = f) (R1 R2 : World → Prop)
    (h1 : Calls Try.prog 25 #[q, .int .i64 id] (w.alloc (.cells (opc 4 fr to_ id at_ bits v) 36)) fun en w1 => en = .returned (.tuple #[.agg (dgc x), u, .int .i64 f]) ∧ w1.heap[w.heap.size]? = some (.cells (opc 4 fr to_ id at_ bits v) 36 (0, 0)) ∧ R1 w1)
    (h2 : ∀ w1 m, R1 w1 → Calls Try.prog 20 #[p, .int .i64 id] (w1.alloc (.cells (dgc x) 39) |>.drewN m) fun en w2 => en = .returned (.int .i64 e) ∧ R2 w2) :
    Calls Try.prog 9 #[p, q, .agg (opc 4 fr to_ id at_ bits v)] w fun en w' => AR en C ∧ R2 w' := by
  unfold opc dgc at *
  have H1 := Lib.hid h1
  have H2 := Lib.hid h2
  have HC := Lib.hid hC
  clear h1 h2 hC
  go_enter Try.func9, Try.ntmps9
  go_wp2_with fail
  refine H1.out.mono ?_
  clear H1
  rintro en w1 ⟨rfl, hb, hR⟩
  have c3 := blk_cell hb 3 (.int .i64 id) rfl
  have c3' := fun o => Lib.cell?_alloc_some o c3
  have HR := Lib.hid hR
  clear hR hb
  go_wp2_with fail
  refine (H2.out w1 0 HR.out).mono ?_
  clear H2 HR
  rintro en w2 ⟨rfl, hR⟩
  have HR := Lib.hid hR
  clear hR
  by_cases q3 : e = f
  · subst q3
    go_wp2_with fail
    go_ret
    exact ⟨⟨_, rfl, fun _ => by simp⟩, HR.out⟩
  · have e3 : (e == f) = false := by simpa using q3
    go_wp2_with fail
    go_ret
    exact ⟨⟨_, rfl, fun h => absurd (HC.out h) q3⟩, HR.out⟩
set_option maxRecDepth 100000 in
set_option maxHeartbeats 2000000 in
theorem act3 (p q : Value) (fr to_ id at_ bits : Int) (v : Value) (w : World) (x y : S39) (A B : Option Addr) (n c m d : Nat) (xs ys : List Int) (e f : Int) (C : Prop) (hC : C → x = y ∧ xs = ys ∧ e = f) (R1 R2 : World → Prop)
    (h1 : Calls Try.prog 10 #[p, .int .i64 id] (w.alloc (.cells (opc 3 fr to_ id at_ bits v) 36)) fun en w1 => en = .returned (.tuple #[.agg (dgc x), .slice A n c, .int .i64 e]) ∧ w1.heap[w.heap.size]? = some (.cells (opc 3 fr to_ id at_ bits v) 36 (0, 0)) ∧ R1 w1)
    (h2 : ∀ w1, R1 w1 → Calls Try.prog 25 #[q, .int .i64 id] (w1.alloc (.cells (dgc x) 39)) fun en w2 => en = .returned (.tuple #[.agg (dgc y), .slice B m d, .int .i64 f]) ∧ w2.heap[w1.heap.size]? = some (.cells (dgc x) 39 (0, 0)) ∧ KB.C w2 A n xs ∧ KB.C w2 B m ys ∧ R2 w2) :
    Calls Try.prog 9 #[p, q, .agg (opc 3 fr to_ id at_ bits v)] w fun en w' => AR en C ∧ ∃ w2, R2 w2 ∧ Below w2.heap.size w2 w' := by
  unfold opc dgc at *
  have H1 := Lib.hid h1
  have H2 := Lib.hid h2
  have HC := Lib.hid hC
  clear h1 h2 hC
  go_enter Try.func9, Try.ntmps9
  go_wp2_with fail
  refine H1.out.mono ?_
  clear H1
  rintro en w1 ⟨rfl, hb, hR⟩
  have c3 := blk_cell hb 3 (.int .i64 id) rfl
  have c3' := fun o => Lib.cell?_alloc_some o c3
  have HR := Lib.hid hR
  clear hR hb
  go_wp2_with fail
  refine (H2.out w1 HR.out).mono ?_
  clear H2 HR
  rintro en w2 ⟨rfl, hb, hc1, hc2, hR⟩
  have HR := Lib.hid hR
  have HC1 := Lib.hid hc1
  have HC2 := Lib.hid hc2
  have a0 := fun o => Lib.cell?_alloc_some o (blk_cell hb 0 (.int .i64 x.f0) rfl)
  have a1 := fun o => Lib.cell?_alloc_some o (blk_cell hb 1 (.int .i64 x.f1) rfl)
  have a2 := fun o => Lib.cell?_alloc_some o (blk_cell hb 2 (.int .i64 x.f2) rfl)
  have a3 := fun o => Lib.cell?_alloc_some o (blk_cell hb 3 (.int .i64 x.f3) rfl)
  have a4 := fun o => Lib.cell?_alloc_some o (blk_cell hb 4 (.bool x.f4) rfl)
  have hcv1 := fun o => Kd.C_string (P := Try.prog) (A := A) (c := c) Try.underlying23 Try.underlying5 Try.underlying9 (Kd.C_alloc hc1 o)
  have hcv2 := fun o => Kd.C_string (P := Try.prog) (A := B) (c := d) Try.underlying23 Try.underlying5 Try.underlying9 (Kd.C_alloc hc2 o)
  clear hR hc1 hc2 hb
  go_wp2_with fail
  all_goals
    go_ret
    refine ⟨⟨_, rfl, fun h => ?_⟩, _, HR.out, below_alloc (Below.refl _ _) _⟩
    obtain ⟨rfl, rfl, rfl⟩ := HC.out h
    first | rfl | (simp; done) | contradiction | (exfalso; simp_all; done)
end Go.Proofs.Ytnognpfenefafaa
