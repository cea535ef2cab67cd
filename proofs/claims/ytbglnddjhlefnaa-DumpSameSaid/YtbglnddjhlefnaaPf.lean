/- A function's nodes as a list: the model. No program. -/
import Derived.Test.YtbglnddjhlefnaaPe
namespace Go.Proofs.Ytbglnddjhlefnaa
abbrev At := List (Nat × Nat)
def walkF (N : List Nd) : Nat → Nat → List Nd → At → Nat × List Nd × At
  | 0, a, L, D => (a, L, D)
  | f + 1, a, L, D =>
    if a < 2 then (a, L, D) else
    match getG D a with
    | some i => (i, L, D)
    | none =>
      let x := walkF N f (ndAt N a).lo L D
      let y := walkF N f (ndAt N a).hi x.2.1 x.2.2
      (y.2.1.length + 2, y.2.1 ++ [((ndAt N a).b, x.1, y.1)], putG y.2.2 a (y.2.1.length + 2))
def listF (N : List Nd) (a : Nat) : List Nd := (walkF N a a [] []).2.1
theorem walkF_len (N : List Nd) : ∀ (f a : Nat) (L : List Nd) (D : At), L.length ≤ (walkF N f a L D).2.1.length := by
  intro f
  induction f with
  | zero => intro a L D; exact Nat.le_refl _
  | succ f ih =>
    intro a L D
    rw [walkF]
    split
    · exact Nat.le_refl _
    · split
      · exact Nat.le_refl _
      · simp only [List.length_append, List.length_singleton]
        have h1 := ih (ndAt N a).lo L D
        have h2 := ih (ndAt N a).hi (walkF N f (ndAt N a).lo L D).2.1 (walkF N f (ndAt N a).lo L D).2.2
        omega
/-- Each node stands in the list once: as many as there are keys. -/
theorem putG_len {α β : Type} [DecidableEq α] (L : List (α × β)) (k : α) (v : β) : L.length ≤ (putG L k v).length := by
  induction L with
  | nil => simp
  | cons p L ih =>
    rw [putG]
    split
    · simp
    · simp only [List.length_cons]; omega
end Go.Proofs.Ytbglnddjhlefnaa
