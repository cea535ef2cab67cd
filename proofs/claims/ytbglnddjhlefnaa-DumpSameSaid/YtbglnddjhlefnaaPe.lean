/- Rows of diagrams: where all hold, where one holds; tables as they are. No program. -/
import Derived.Test.YtbglnddjhlefnaaPd
namespace Go.Proofs.Ytbglnddjhlefnaa
theorem chooseF_ok {bits : Nat} {N : List Nd} (w : WF bits N) {a b c : Nat} (ha : Val N a) (hb : Val N b) (hc : Val N c) : IteOk bits N a b c (chooseF bits N a b c) := by
  refine iteF_ok true (bits + 1) a b c N [] w (fun p hp => by cases hp) ha hb hc ?_
  omega
/-- and: a is where all hold that came so far; else: where one does. -/
def foldC (bits : Nat) (and : Bool) : List Nd → Nat → List Nat → Nat × List Nd
  | N, a, [] => (a, N)
  | N, a, b :: l =>
    let r := if and then chooseF bits N a b 0 else chooseF bits N a 1 b
    foldC bits and r.2.1 r.1 l
structure FoldOk (bits : Nat) (and : Bool) (N : List Nd) (a : Nat) (l : List Nat) (x : Nat × List Nd) : Prop where
  pre : N <+: x.2
  wf : WF bits x.2
  val : Val x.2 x.1
  sem : ∀ h, sem x.2 x.1 h = if and then sem N a h && l.all (fun b => sem N b h) else sem N a h || l.any (fun b => sem N b h)
theorem foldC_ok {bits : Nat} (and : Bool) : ∀ (l : List Nat) (N : List Nd) (a : Nat), WF bits N → Val N a → (∀ b ∈ l, Val N b) → FoldOk bits and N a l (foldC bits and N a l) := by
  intro l
  induction l with
  | nil => intro N a w ha _; exact ⟨List.prefix_refl _, w, ha, fun h => by cases and <;> simp [foldC]⟩
  | cons b l ih =>
    intro N a w ha hl
    have hb := hl b List.mem_cons_self
    rw [foldC]
    have h0 : ∃ x y z, (if and then chooseF bits N a b 0 else chooseF bits N a 1 b) = chooseF bits N x y z ∧ Val N x ∧ Val N y ∧ Val N z ∧ ∀ h, (if sem N x h then sem N y h else sem N z h) = if and then sem N a h && sem N b h else sem N a h || sem N b h := by
      cases and
      · exact ⟨a, 1, b, rfl, ha, val1 _, hb, fun h => by rw [sem_one]; cases sem N a h <;> simp⟩
      · exact ⟨a, b, 0, rfl, ha, hb, val0 _, fun h => by rw [sem_zero]; cases sem N a h <;> simp⟩
    obtain ⟨x, y, z, e, hx, hy, hz, hs⟩ := h0
    rw [e]
    have O := chooseF_ok w hx hy hz
    generalize chooseF bits N x y z = r at O
    have hl2 : ∀ c ∈ l, Val r.2.1 c := fun c hc => (hl c (List.mem_cons_of_mem _ hc)).pre O.pre
    have I := ih r.2.1 r.1 O.wf O.val hl2
    refine ⟨O.pre.trans I.pre, I.wf, I.val, fun h => ?_⟩
    have e1 : ∀ c ∈ l, sem r.2.1 c h = sem N c h := fun c hc => sem_pre w O.pre O.wf c (hl c (List.mem_cons_of_mem _ hc)) h
    have e2 : l.all (fun c => sem r.2.1 c h) = l.all (fun c => sem N c h) := by
      rw [Bool.eq_iff_iff, List.all_eq_true, List.all_eq_true]
      exact ⟨fun q c hc => by rw [← e1 c hc]; exact q c hc, fun q c hc => by rw [e1 c hc]; exact q c hc⟩
    have e3 : l.any (fun c => sem r.2.1 c h) = l.any (fun c => sem N c h) := by
      rw [Bool.eq_iff_iff, List.any_eq_true, List.any_eq_true]
      exact ⟨fun ⟨c, hc, q⟩ => ⟨c, hc, by rw [← e1 c hc]; exact q⟩, fun ⟨c, hc, q⟩ => ⟨c, hc, by rw [e1 c hc]; exact q⟩⟩
    rw [I.sem, O.sem, sem_pre w O.pre O.wf x hx, sem_pre w O.pre O.wf y hy, sem_pre w O.pre O.wf z hz, hs, e2, e3, List.all_cons, List.any_cons]
    cases and
    · simp [Bool.or_assoc]
    · simp [Bool.and_assoc]
theorem foldC_snoc (bits : Nat) (and : Bool) : ∀ (l : List Nat) (N : List Nd) (a b : Nat), foldC bits and N a (l ++ [b]) = let r := if and then chooseF bits (foldC bits and N a l).2 (foldC bits and N a l).1 b 0 else chooseF bits (foldC bits and N a l).2 (foldC bits and N a l).1 1 b; (r.1, r.2.1)
  | [], N, a, b => rfl
  | c :: l, N, a, b => by
    rw [List.cons_append, foldC, foldC]
    exact foldC_snoc bits and l _ _ b
/-- The row of nodes only grows. -/
theorem foldC_pre {bits : Nat} (and : Bool) (l1 l2 : List Nat) (N : List Nd) (a : Nat) (w : WF bits N) (ha : Val N a) (hl : ∀ b ∈ l1 ++ l2, Val N b) : (foldC bits and N a l1).2 <+: (foldC bits and N a (l1 ++ l2)).2 := by
  induction l1 generalizing N a with
  | nil => exact (foldC_ok and l2 N a w ha hl).pre
  | cons b l ih =>
    have h1 := foldC_ok and [b] N a w ha (fun c hc => hl c (by simp at hc; simp [hc]))
    rw [List.cons_append, foldC, foldC]
    rw [foldC, foldC] at h1
    exact ih _ _ h1.wf h1.val (fun c hc => (hl c (List.mem_cons_of_mem _ hc)).pre h1.pre)
end Go.Proofs.Ytbglnddjhlefnaa
