/-
  The row of the law SessionBounds: for every input that can be read it returns true, and each argument reads as it read. No condition.
-/
import Derived.Test.YtlnhjkbhhdcdeaaRows
import Derived.Test.YtlnhjkbhhdcdeaaSq6
import Derived.Test.YtlnhjkbhhdcdeaaOpen
import Derived.WalkKit
import Derived.ProofKit
import Derived.OpenShut
import Derived.ShutString
import Derived.ChangeOld
import Derived.Below
import Derived.SizedLaws
namespace Go.Proofs.Ytlnhjkbhhdcdeaa.sessionBoundsRow
open Go.ChangeShapes Go.WideShapes Go.ChangeAt Go.RowKit Go.Proofs.YtlnhjkbhhdcdeaaW.PrintWords
open Go.ChangeMaps (open_string shut_string)
set_option linter.unusedVariables false
theorem own : ownKnob Try.prog.godebug = none := by kernel_rfl
theorem laidOut : laidOutB Try.prog = true := by kernel_rfl
set_option maxRecDepth 100000 in
theorem lifted (os : Os) (started : os.Started) (H : Type) (enc : TypeId × Value → H) :
    ReturnsInHanded {} Try.checked os 5 .any (Rows.sessionBoundsSpec.pre6 enc Try.prog Try.f5 Rows.sessionBoundsRow.domain false) (Rows.sessionBoundsSpec.post enc Try.prog Try.f5 false true false false) := by
  refine returnsInHanded_of_change_sized (C := Try.checked) own started (by kernel_rfl) Try.func5
    (ChangeSpec.witness6 (enc := enc) (C := Try.checked) false ⟨#[], #[.agg #[.int .u32 0, .int .i64 0, .int .i64 0], .slice none 0 0], []⟩ 8 (by kernel_rfl) (by kernel_rfl) (by kernel_rfl) (by kernel_rfl)) ?_
  intro W base args ds gs before hval0 hW hcnd hsz0 _
  have hsz : (DataW.weightsEach Try.prog (Try.f5.params.toList ++ Rows.sessionBoundsSpec.plain.varTypes Try.prog) (ds ++ gs)).all (· ≤ reachBytes) = true := hsz0
  have hval : ∀ (j : Nat) t v, Try.f5.params[j]? = some t → args[j]? = some v → Value.okWide Try.prog W .any base t v := hval0
  have hW' := hW
  obtain ⟨p, q, hA0, hV, rfl, hfz, hnd⟩ := hW
  have hA : DataW.TrodAll enc Try.prog W 0 (fun _ => true) true Try.f5.params.toList args.toList ds p := hA0
  rw [Try.params5] at hA hval hsz
  obtain ⟨v0, vs0, d0, ds0, p0, q0, hargs, rfl, rfl, h0, r0⟩ := trodAll_cons hA
  obtain ⟨v1, vs1, d1, ds1, p1, q1, rfl, rfl, rfl, h1, r1⟩ := trodAll_cons r0
  obtain ⟨rfl, rfl, rfl⟩ := trodAll_nil r1
  obtain rfl : args = #[v0, v1] := by cases args; simp_all
  obtain ⟨rfl, rfl⟩ := trodVars_none hV
  have k0 := h0
  have lt0 : ∀ x ∈ p0, x.block < W.heap.size := by obtain ⟨m, hm⟩ := k0; exact DataW.trod_lt m _ _ _ hm
  have z0 : (d0.weights Try.prog 39).all (· ≤ reachBytes) = true := List.all_eq_true.2 fun y hy => List.all_eq_true.1 hsz y (DataW.weights_mem_each (j := 0) rfl rfl y hy)
  obtain ⟨xs0, w0, y0⟩ := Opens.val Try.underlying39 (Opens.struct_ Try.underlying39 (by kernel_rfl) (OpensL.cons (Opens.int Try.underlying23 (by kernel_rfl)) (OpensL.cons (Opens.int Try.underlying3 (by kernel_rfl)) (OpensL.last (Opens.int Try.underlying3 (by kernel_rfl)))))) (hval 0 39 v0 rfl rfl) h0 z0
  have k1 := h1
  have lt1 : ∀ x ∈ p1, x.block < W.heap.size := by obtain ⟨m, hm⟩ := k1; exact DataW.trod_lt m _ _ _ hm
  have z1 : (d1.weights Try.prog 40).all (· ≤ reachBytes) = true := List.all_eq_true.2 fun y hy => List.all_eq_true.1 hsz y (DataW.weights_mem_each (j := 1) rfl rfl y hy)
  obtain ⟨xs1, w1, y1⟩ := Opens.arg (b := 0) (Kd.heap_pair (Kd.heap_int _) (Kd.heap_pair (Kd.heap_int _) (Kd.heap_pair (Kd.heap_slice _ (Kd.heap_slice _ (Kd.heap_int _))) (Kd.heap_pair (Kd.heap_int _) (Kd.heap_pair (Kd.heap_int _) (Kd.heap_pair (Kd.heap_int _) (Kd.heap_pair (Kd.heap_int _) (Kd.heap_pair (Kd.heap_int _) (Kd.heap_slice _ (Kd.heap_int _)))))))))) Try.underlying40 (Opens.slice (B := 96) Try.underlying40 (by kernel_rfl) (by kernel_rfl) (Opens.struct_ Try.underlying47 (by kernel_rfl) (OpensL.cons (Opens.int Try.underlying3 (by kernel_rfl)) (OpensL.cons (Opens.int Try.underlying3 (by kernel_rfl)) (OpensL.cons (Opens.slice (B := 24) Try.underlying45 (by kernel_rfl) (by kernel_rfl) (Opens.slice (B := 1) Try.underlying25 (by kernel_rfl) (by kernel_rfl) (Opens.int Try.underlying5 (by kernel_rfl)))) (OpensL.last (Opens.struct_ Try.underlying27 (by kernel_rfl) (OpensL.cons (Opens.int Try.underlying22 (by kernel_rfl)) (OpensL.cons (Opens.int Try.underlying23 (by kernel_rfl)) (OpensL.cons (Opens.int Try.underlying23 (by kernel_rfl)) (OpensL.cons (Opens.int Try.underlying24 (by kernel_rfl)) (OpensL.cons (Opens.int Try.underlying24 (by kernel_rfl)) (OpensL.last (Opens.slice (B := 1) Try.underlying25 (by kernel_rfl) (by kernel_rfl) (Opens.int Try.underlying5 (by kernel_rfl)))))))))))))))) (hval 1 40 v1 rfl rfl) h1 z1
  clear hA0 hval0 hsz0 hsz
  refine (law_bounds v0 xs0 v1 xs1 W w0 y0 w1 y1).mono fun e W' ⟨he, bel⟩ => ?_
  subst he
  exact ⟨_, rfl, _, _, _, [], _, [], hW', trodAll_mk1 (shut_bool Try.underlying4 _), (trodAll_cons_mk (Below.trod laidOut (by kernel_rfl) (of_decide_eq_true (by kernel_rfl)) k0 bel lt0) (trodAll_cons_mk (Below.trod laidOut (by kernel_rfl) (of_decide_eq_true (by kernel_rfl)) k1 bel lt1) trodAll_mk0)), rfl, bel.frame _, fun h => by cases h⟩
theorem over : Rows.sessionBoundsRow.holds Try.pinned (OpenSpec.ofChange Rows.sessionBoundsSpec) :=
  OpenClaim.holds_of_wide 5 Try.f5 rfl rfl rfl rfl rfl rfl rfl ⟨rfl, rfl, rfl, rfl, rfl⟩ rfl rfl rfl rfl rfl (by kernel_rfl) Try.func5 (by kernel_rfl)
    (of_decide_eq_true (by kernel_rfl)) (by unfold Func.isWrapper; first | (rw [if_pos (by decide +kernel)]; kernel_rfl) | (rw [if_neg (by decide +kernel)]; exact ⟨rfl, rfl⟩))
    (fun os started H enc _ => lifted os started H enc)
theorem proved : Rows.SessionBoundsSaid := over
end Go.Proofs.Ytlnhjkbhhdcdeaa.sessionBoundsRow
namespace Go.Proofs.Ytlnhjkbhhdcdeaa
/-- The statement. -/
theorem sessionBounds_holds : Rows.SessionBoundsSaid := sessionBoundsRow.proved
#print axioms sessionBounds_holds
end Go.Proofs.Ytlnhjkbhhdcdeaa

