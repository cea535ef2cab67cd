/- The walk of SessionBounds. -/
import Derived.Test.YtlnhjkbhhdcdeaaSq2
namespace Go.Proofs.Ytlnhjkbhhdcdeaa
open Go Go.RowKit Go.ChangeShapes Go.WideShapes Go.Proofs.YtlnhjkbhhdcdeaaW.PrintWords Go.Proofs.YtlnhjkbhhdcdeaaW.PrintLast Go.Proofs.YtlnhjkbhhdcdeaaW.PrintMore
open Go.Proofs.Ytlnhjkbhhdcdeaa.PSessionRuns (S27 k27 z27 S116 k116 z116)
set_option linter.unusedVariables false
set_option maxRecDepth 100000
set_option maxHeartbeats 4000000
attribute [local go_sem] max2_mx min2_mn max_two min_two
def okF (x : TFr) : Prop := (Lit.int .u8 x.1).wf = true ∧ (Lit.int .u32 x.2.1).wf = true ∧ (Lit.int .u32 x.2.2.1).wf = true ∧ (Lit.int .u64 x.2.2.2.1).wf = true ∧ (Lit.int .u64 x.2.2.2.2.1).wf = true ∧ (∀ b ∈ x.2.2.2.2.2, (Lit.int .u8 b).wf = true) ∧ x.2.2.2.2.2.length * 1 ≤ 140737488351232
def okO (o : TOp) : Prop := (Lit.int .i64 o.1).wf = true ∧ (Lit.int .i64 o.2.1).wf = true ∧ ((∀ x ∈ o.2.2.1, (∀ b ∈ x, (Lit.int .u8 b).wf = true) ∧ x.length * 1 ≤ 140737488351232) ∧ o.2.2.1.length * 24 ≤ 140737488351232) ∧ okF o.2.2.2
theorem okF_fok {x : TFr} (h : okF x) : FOk (frof x) := by
  obtain ⟨_, h1, _, h3, h4, _⟩ := h
  simp [Lit.wf, IntKind.min, IntKind.max, IntKind.signed, IntKind.bits] at h1 h3 h4
  unfold FOk frof
  simp only
  omega
theorem bounds_bad (bo wi tm : Int) (v1 : Value) (w : World) (hb : badc bo wi tm = true) :
    Calls Try.prog 5 #[.agg #[.int .u32 bo, .int .i64 wi, .int .i64 tm], v1] w fun e w' => e = .returned (.bool true) ∧ Below w.heap.size w w' := by
  have HN : Hid (∀ W, Calls Try.prog 13 #[.agg #[.int .u32 bo, .int .i64 wi, .int .i64 tm], .int .i64 0] W fun e w' => e = .returned (.tuple #[.pointer none, .slice none 0 0, .int .i64 200]) ∧ w' = W.alloc (.cells #[.int .u32 bo, .int .i64 wi, .int .i64 tm] 39)) := Lib.hid (fun W => new_bad bo wi tm 0 hb)
  clear hb
  go_enter Try.func5, Try.ntmps5
  go_wp2_with fail
  refine (HN.out _).mono ?_
  rintro e w1 ⟨rfl, hw1⟩
  have HW1 : Hid (Below w.heap.size w w1) := by
    rw [hw1]
    exact Lib.hid (below_then (below_alloc (Below.refl _ _) _) (below_alloc (Below.refl w.heap.size w) _).size (below_alloc (Below.refl _ _) _))
  clear hw1
  go_wp2_with fail
  refine (alive _).mono ?_
  rintro e w2 ⟨rfl, hb2⟩
  have HB2 := Lib.hid (below_then HW1.out HW1.out.size hb2)
  clear hb2
  go_wp2_with fail
  go_ret
  exact ⟨rfl, HB2.out⟩
end Go.Proofs.Ytlnhjkbhhdcdeaa
