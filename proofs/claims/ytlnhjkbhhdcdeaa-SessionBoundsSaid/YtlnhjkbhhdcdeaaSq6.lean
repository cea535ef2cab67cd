/- The law SessionBounds: no more is on its way than the window has room for. -/
import Derived.Test.YtlnhjkbhhdcdeaaSq5
namespace Go.Proofs.Ytlnhjkbhhdcdeaa
open Go Go.RowKit Go.Proofs.YtlnhjkbhhdcdeaaW.PrintWords Go.Proofs.YtlnhjkbhhdcdeaaW.PrintLast Go.Proofs.YtlnhjkbhhdcdeaaW.PrintMore
set_option linter.unusedVariables false
theorem conf_K {w : World} {x : Int × Int × Int} {cs : Array Value} (h : (Kd.pair (Kd.int .u32) (Kd.pair (Kd.int .i64) (Kd.int .i64))).K w x cs.toList) : cs = #[.int .u32 x.1, .int .i64 x.2.1, .int .i64 x.2.2] := by
  obtain ⟨a, b, e1, h1, c, d, e2, h2, h3⟩ := h
  have h1' : a = [.int .u32 x.1] := h1
  have h2' : c = [.int .i64 x.2.1] := h2
  have h3' : d = [.int .i64 x.2.2] := h3
  rw [← Array.toList_inj, e1, e2, h1', h2', h3']
  rfl
theorem law_bounds (v0 : Value) (x : Int × Int × Int) (v1 : Value) (xs1 : List TOp) (w : World) (hK : ∃ cs : Array Value, v0 = .agg cs ∧ (Kd.pair (Kd.int .u32) (Kd.pair (Kd.int .i64) (Kd.int .i64))).K w x cs.toList)
    (hok : (Lit.int .u32 x.1).wf = true ∧ (Lit.int .i64 x.2.1).wf = true ∧ (Lit.int .i64 x.2.2).wf = true) (hV : Kd.V kop 47 w 0 (fun k => k < w.heap.size) v1 xs1) (hokl : (∀ o ∈ xs1, okO o) ∧ xs1.length * 96 ≤ 140737488351232) :
    Calls Try.prog 5 #[v0, v1] w fun e w' => e = .returned (.bool true) ∧ Below w.heap.size w w' := by
  obtain ⟨cs, rfl, hk⟩ := hK
  rw [conf_K hk]
  cases hb : badc x.1 x.2.1 x.2.2 with
  | true => exact bounds_bad _ _ _ _ _ hb
  | false =>
    have h0 := hok.1
    simp [Lit.wf, IntKind.min, IntKind.max, IntKind.signed, IntKind.bits] at h0
    exact bounds_ok _ _ _ _ _ _ hb (by omega) (by omega) hV hokl.1
end Go.Proofs.Ytlnhjkbhhdcdeaa
