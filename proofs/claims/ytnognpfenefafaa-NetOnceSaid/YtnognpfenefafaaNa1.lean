/- The walks of act, whatever its two calls answer. -/
import Derived.Test.YtnognpfenefafaaRr2
namespace Go.Proofs.Ytnognpfenefafaa
open Go.Proofs.Ytnognpfenefafaa.PNetRuns (S39 S73 k39 k73 z39 z73)
open Go.RowKit Go.Proofs.YtnognpfenefafaaW.PrintWords Go.Proofs.YtnognpfenefafaaW.PrintLast Go.Proofs.YtnognpfenefafaaW.PrintMore
/-- An act's cells. -/
def opc (k fr to_ id at_ bits : Int) (v : Value) : Array Value := #[.int .i64 k, .int .i64 fr, .int .i64 to_, .int .i64 id, .int .i64 at_, .int .u8 bits, v]
/-- An answer that is true where C holds. -/
def AR (en : Ending) (C : Prop) : Prop := ∃ r, en = .returned (.bool r) ∧ (C → r = true)
set_option maxRecDepth 100000 in
theorem opc_none (p q : Value) (k fr to_ id at_ bits : Int) (v : Value) (w : World) (h : k < 1 ∨ 7 < k) : Calls Try.prog 9 #[p, q, .agg (opc k fr to_ id at_ bits v)] w fun en w' => en = .returned (.bool true) ∧ w' = w.alloc (.cells (opc k fr to_ id at_ bits v) 36) := by
  have h1 : (k == 1) = false := by simp; omega
  have h2 : (k == 2) = false := by simp; omega
  have h3 : (k == 3) = false := by simp; omega
  have h4 : (k == 4) = false := by simp; omega
  have h5 : (k == 5) = false := by simp; omega
  have h6 : (k == 6) = false := by simp; omega
  have h7 : (k == 7) = false := by simp; omega
  clear h
  unfold opc
  go_enter Try.func9, Try.ntmps9
  go_wp2_with fail
  go_ret
  exact ⟨rfl, rfl⟩

set_option maxRecDepth 100000 in
set_option maxHeartbeats 2000000 in
theorem act1 (p q : Value) (fr to_ id at_ bits : Int) (v : Value) (w : World) (a b : Int) (x y : Bool) (e f : Int) (C : Prop) (hC : C → a = b ∧ x = y ∧ e = f) (R1 R2 : World → Prop)
    (h1 : Calls Try.prog 8 #[p, .int .i64 fr, .int .i64 to_, v] (w.alloc (.cells (opc 1 fr to_ id at_ bits v) 36)) fun en w1 => en = .returned (.tuple #[.int .i64 a, .bool x, .int .i64 e]) ∧ w1.heap[w.heap.size]? = some (.cells (opc 1 fr to_ id at_ bits v) 36 (0, 0)) ∧ R1 w1)
    (h2 : ∀ w1, R1 w1 → Calls Try.prog 24 #[q, .int .i64 fr, .int .i64 to_, v, .bool false] w1 fun en w2 => en = .returned (.tuple #[.int .i64 b, .bool y, .int .i64 f]) ∧ R2 w2) :
    Calls Try.prog 9 #[p, q, .agg (opc 1 fr to_ id at_ bits v)] w fun en w' => AR en C ∧ R2 w' := by
  unfold opc at *
  have H1 := Lib.hid h1
  have H2 := Lib.hid h2
  have HC := Lib.hid hC
  clear h1 h2 hC
  go_enter Try.func9, Try.ntmps9
  go_wp2_with fail
  refine H1.out.mono ?_
  clear H1
  rintro en w1 ⟨rfl, hb, hR⟩
  (have mlc0 := blk_cell hb 0 _ rfl; have mlc1 := blk_cell hb 1 _ rfl; have mlc2 := blk_cell hb 2 _ rfl; have mlc3 := blk_cell hb 3 _ rfl; have mlc4 := blk_cell hb 4 _ rfl; have mlc5 := blk_cell hb 5 _ rfl; have mlc6 := blk_cell hb 6 _ rfl; clear hb)
  have HR := Lib.hid hR
  clear hR
  go_wp2_with fail
  refine (H2.out w1 HR.out).mono ?_
  clear H2 HR
  rintro en w2 ⟨rfl, hR⟩
  have HR := Lib.hid hR
  clear hR
  by_cases q1 : a = b
  · subst q1
    by_cases q2 : x = y
    · subst q2
      have e2 : (x == x) = true := by simp
      by_cases q3 : e = f
      · subst q3
        go_wp2_with fail
        go_ret
        exact ⟨⟨_, rfl, fun _ => rfl⟩, HR.out⟩
      · have e3 : (e == f) = false := by simpa using q3
        go_wp2_with fail
        go_ret
        exact ⟨⟨_, rfl, fun h => absurd (HC.out h).2.2 q3⟩, HR.out⟩
    · have e2 : (x == y) = false := by simpa using q2
      go_wp2_with fail
      go_ret
      exact ⟨⟨_, rfl, fun h => absurd (HC.out h).2.1 q2⟩, HR.out⟩
  · have e1 : (a == b) = false := by simpa using q1
    go_wp2_with fail
    go_ret
    exact ⟨⟨_, rfl, fun h => absurd (HC.out h).1 q1⟩, HR.out⟩
set_option maxRecDepth 100000 in
set_option maxHeartbeats 2000000 in
theorem act2 (p q : Value) (fr to_ id at_ bits : Int) (v : Value) (w : World) (a b : Int) (x y : Bool) (e f : Int) (C : Prop) (hC : C → a = b ∧ x = y ∧ e = f) (R1 R2 : World → Prop)
    (h1 : Calls Try.prog 18 #[p, .int .i64 fr, .int .i64 to_, v] (w.alloc (.cells (opc 2 fr to_ id at_ bits v) 36)) fun en w1 => en = .returned (.tuple #[.int .i64 a, .bool x, .int .i64 e]) ∧ w1.heap[w.heap.size]? = some (.cells (opc 2 fr to_ id at_ bits v) 36 (0, 0)) ∧ R1 w1)
    (h2 : ∀ w1, R1 w1 → Calls Try.prog 24 #[q, .int .i64 fr, .int .i64 to_, v, .bool true] w1 fun en w2 => en = .returned (.tuple #[.int .i64 b, .bool y, .int .i64 f]) ∧ R2 w2) :
    Calls Try.prog 9 #[p, q, .agg (opc 2 fr to_ id at_ bits v)] w fun en w' => AR en C ∧ R2 w' := by
  unfold opc at *
  have H1 := Lib.hid h1
  have H2 := Lib.hid h2
  have HC := Lib.hid hC
  clear h1 h2 hC
  go_enter Try.func9, Try.ntmps9
  go_wp2_with fail
  refine H1.out.mono ?_
  clear H1
  rintro en w1 ⟨rfl, hb, hR⟩
  (have mlc0 := blk_cell hb 0 _ rfl; have mlc1 := blk_cell hb 1 _ rfl; have mlc2 := blk_cell hb 2 _ rfl; have mlc3 := blk_cell hb 3 _ rfl; have mlc4 := blk_cell hb 4 _ rfl; have mlc5 := blk_cell hb 5 _ rfl; have mlc6 := blk_cell hb 6 _ rfl; clear hb)
  have HR := Lib.hid hR
  clear hR
  go_wp2_with fail
  refine (H2.out w1 HR.out).mono ?_
  clear H2 HR
  rintro en w2 ⟨rfl, hR⟩
  have HR := Lib.hid hR
  clear hR
  by_cases q1 : a = b
  · subst q1
    by_cases q2 : x = y
    · subst q2
      have e2 : (x == x) = true := by simp
      by_cases q3 : e = f
      · subst q3
        go_wp2_with fail
        go_ret
        exact ⟨⟨_, rfl, fun _ => rfl⟩, HR.out⟩
      · have e3 : (e == f) = false := by simpa using q3
        go_wp2_with fail
        go_ret
        exact ⟨⟨_, rfl, fun h => absurd (HC.out h).2.2 q3⟩, HR.out⟩
    · have e2 : (x == y) = false := by simpa using q2
      go_wp2_with fail
      go_ret
      exact ⟨⟨_, rfl, fun h => absurd (HC.out h).2.1 q2⟩, HR.out⟩
  · have e1 : (a == b) = false := by simpa using q1
    go_wp2_with fail
    go_ret
    exact ⟨⟨_, rfl, fun h => absurd (HC.out h).1 q1⟩, HR.out⟩
set_option maxRecDepth 100000 in
set_option maxHeartbeats 2000000 in
theorem act5 (p q : Value) (fr to_ id at_ bits : Int) (v : Value) (w : World) (a b : Int) (x y : Bool) (e f : Int) (C : Prop) (hC : C → a = b ∧ x = y ∧ e = f) (R1 R2 : World → Prop)
    (h1 : Calls Try.prog 19 #[p, .int .i64 id] (w.alloc (.cells (opc 5 fr to_ id at_ bits v) 36)) fun en w1 => en = .returned (.tuple #[.int .i64 a, .bool x, .int .i64 e]) ∧ w1.heap[w.heap.size]? = some (.cells (opc 5 fr to_ id at_ bits v) 36 (0, 0)) ∧ R1 w1)
    (h2 : ∀ w1, R1 w1 → Calls Try.prog 26 #[q, .int .i64 id] w1 fun en w2 => en = .returned (.tuple #[.int .i64 b, .bool y, .int .i64 f]) ∧ R2 w2) :
    Calls Try.prog 9 #[p, q, .agg (opc 5 fr to_ id at_ bits v)] w fun en w' => AR en C ∧ R2 w' := by
  unfold opc at *
  have H1 := Lib.hid h1
  have H2 := Lib.hid h2
  have HC := Lib.hid hC
  clear h1 h2 hC
  go_enter Try.func9, Try.ntmps9
  go_wp2_with fail
  refine H1.out.mono ?_
  clear H1
  rintro en w1 ⟨rfl, hb, hR⟩
  (have mlc0 := blk_cell hb 0 _ rfl; have mlc1 := blk_cell hb 1 _ rfl; have mlc2 := blk_cell hb 2 _ rfl; have mlc3 := blk_cell hb 3 _ rfl; have mlc4 := blk_cell hb 4 _ rfl; have mlc5 := blk_cell hb 5 _ rfl; have mlc6 := blk_cell hb 6 _ rfl; clear hb)
  have HR := Lib.hid hR
  clear hR
  go_wp2_with fail
  refine (H2.out w1 HR.out).mono ?_
  clear H2 HR
  rintro en w2 ⟨rfl, hR⟩
  have HR := Lib.hid hR
  clear hR
  by_cases q1 : a = b
  · subst q1
    by_cases q2 : x = y
    · subst q2
      have e2 : (x == x) = true := by simp
      by_cases q3 : e = f
      · subst q3
        go_wp2_with fail
        go_ret
        exact ⟨⟨_, rfl, fun _ => rfl⟩, HR.out⟩
      · have e3 : (e == f) = false := by simpa using q3
        go_wp2_with fail
        go_ret
        exact ⟨⟨_, rfl, fun h => absurd (HC.out h).2.2 q3⟩, HR.out⟩
    · have e2 : (x == y) = false := by simpa using q2
      go_wp2_with fail
      go_ret
      exact ⟨⟨_, rfl, fun h => absurd (HC.out h).2.1 q2⟩, HR.out⟩
  · have e1 : (a == b) = false := by simpa using q1
    go_wp2_with fail
    go_ret
    exact ⟨⟨_, rfl, fun h => absurd (HC.out h).1 q1⟩, HR.out⟩
set_option maxRecDepth 100000 in
set_option maxHeartbeats 2000000 in
theorem act7 (p q : Value) (fr to_ id at_ bits : Int) (v : Value) (w : World) (e f : Int) (C : Prop) (hC : C → e = f) (R1 R2 : World → Prop)
    (h1 : Calls Try.prog 22 #[p] (w.alloc (.cells (opc 7 fr to_ id at_ bits v) 36)) fun en w1 => en = .returned (.int .i64 e) ∧ w1.heap[w.heap.size]? = some (.cells (opc 7 fr to_ id at_ bits v) 36 (0, 0)) ∧ R1 w1)
    (h2 : ∀ w1, R1 w1 → Calls Try.prog 28 #[q] w1 fun en w2 => en = .returned (.int .i64 f) ∧ R2 w2) :
    Calls Try.prog 9 #[p, q, .agg (opc 7 fr to_ id at_ bits v)] w fun en w' => AR en C ∧ R2 w' := by
  unfold opc at *
  have H1 := Lib.hid h1
  have H2 := Lib.hid h2
  have HC := Lib.hid hC
  clear h1 h2 hC
  go_enter Try.func9, Try.ntmps9
  go_wp2_with fail
  refine H1.out.mono ?_
  clear H1
  rintro en w1 ⟨rfl, hb, hR⟩
  (have mlc0 := blk_cell hb 0 _ rfl; have mlc1 := blk_cell hb 1 _ rfl; have mlc2 := blk_cell hb 2 _ rfl; have mlc3 := blk_cell hb 3 _ rfl; have mlc4 := blk_cell hb 4 _ rfl; have mlc5 := blk_cell hb 5 _ rfl; have mlc6 := blk_cell hb 6 _ rfl; clear hb)
  have HR := Lib.hid hR
  clear hR
  go_wp2_with fail
  refine (H2.out w1 HR.out).mono ?_
  clear H2 HR
  rintro en w2 ⟨rfl, hR⟩
  have HR := Lib.hid hR
  clear hR
  all_goals
    by_cases q3 : e = f
    · subst q3
      go_wp2_with fail
      go_ret
      exact ⟨⟨_, rfl, fun _ => by simp⟩, HR.out⟩
    · have e3 : (e == f) = false := by simpa using q3
      go_wp2_with fail
      go_ret
      exact ⟨⟨_, rfl, fun h => absurd (HC.out h) q3⟩, HR.out⟩
end Go.Proofs.Ytnognpfenefafaa
